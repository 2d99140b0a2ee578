/-
  The tenths of a number, reckoned step by step in plain steps on numbers. Conditions: those that each theorem names.
-/
import Derived.Test.YtpebdcimbdbbmaaFnExactTenthsOfW
import Derived.Test.YtpebdcimbdbbmaaFst
namespace Go.Proofs.Ytpebdcimbdbbmaa
namespace Flo
open Go Go.Proofs.Ytpebdcimbdbbmaa.fnExactTenthsOf

/-- On with a number, if there is one. -/
def fo (v : Option Nat) (f : Nat → Option Nat) : Option Nat :=
  match v with
  | none => none
  | some 0 => f 0
  | some (m + 1) => f (Nat.succ m)
theorem fo_eq {v : Option Nat} {f : Nat → Option Nat} {N : Nat} (h : fo v f = some N) : ∃ c, v = some c ∧ f c = some N := by
  cases v with
  | none => cases h
  | some c =>
    cases c with
    | zero => exact ⟨0, rfl, h⟩
    | succ m => exact ⟨m + 1, rfl, h⟩

/-! ### Comparisons of words that tell numbers above nought -/
theorem pos6 {v : Nat} (h : Nat.ble 9218868437227405312 v = false) : nan .f64 v = false ∧ sg .f64 v = false ∧ rg .f64 v = v := by
  have h : v < 9218868437227405312 := ble_lt h
  have e : FloatKind.f64.format.signWeight = 9223372036854775808 := fm64.hS
  have hr : rg .f64 v = v := by unfold rg; rw [e]; exact Nat.mod_eq_of_lt (by omega)
  refine ⟨(not_nan_iff .f64 v).2 ?_, ?_, hr⟩
  · rw [hr, fm64.hI]; exact Nat.le_of_lt h
  · unfold sg
    rw [e, Nat.div_eq_of_lt (by omega)]; rfl
theorem cmp6 {v c : Nat} (hv : Nat.ble 9218868437227405312 v = false) (hc : Nat.ble 9218868437227405312 c = false) : FloatKind.f64.format.order v c = some (if v < c then .lt else if v = c then .eq else .gt) := by
  obtain ⟨n1, s1, r1⟩ := pos6 hv
  obtain ⟨n2, s2, r2⟩ := pos6 hc
  rw [order_pos .f64 v c n1 n2 s1 s2, r1, r2]; rfl
theorem ge6 {v c : Nat} (hv : Nat.ble 9218868437227405312 v = false) (hc : Nat.ble 9218868437227405312 c = false) : cm .geq .f64 (some v) (some c) = Nat.ble c v := by
  show (FloatKind.f64.format.order v c == some .gt || FloatKind.f64.format.order v c == some .eq) = _
  rw [cmp6 hv hc]
  rcases Nat.lt_trichotomy v c with h | h | h
  · rw [if_pos h]
    cases hb : Nat.ble c v
    · rfl
    · have := Nat.le_of_ble_eq_true hb
      omega
  · rw [if_neg (by omega), if_pos h, Nat.ble_eq_true_of_le (by omega)]; rfl
  · rw [if_neg (by omega), if_neg (by omega), Nat.ble_eq_true_of_le (by omega)]; rfl
theorem lt6 {v c : Nat} (hv : Nat.ble 9218868437227405312 v = false) (hc : Nat.ble 9218868437227405312 c = false) : cm .lss .f64 (some v) (some c) = !(Nat.ble c v) := by
  show (FloatKind.f64.format.order v c == some .lt) = _
  rw [cmp6 hv hc]
  rcases Nat.lt_trichotomy v c with h | h | h
  · rw [if_pos h]
    cases hb : Nat.ble c v
    · rfl
    · have := Nat.le_of_ble_eq_true hb
      omega
  · rw [if_neg (by omega), if_pos h, Nat.ble_eq_true_of_le (by omega)]; rfl
  · rw [if_neg (by omega), if_neg (by omega), Nat.ble_eq_true_of_le (by omega)]; rfl

/-! ### The whole number below -/
theorem cut_down (s : Bool) (m d : Nat) : Ieee.Toward.down.cut s m d = m / 2 ^ d + (s && m % 2 ^ d != 0).toNat := by
  unfold Ieee.Toward.cut
  simp only [Nat.one_shiftLeft]
  rcases Nat.le_total d (m.log2 + 2) with h | h
  · rw [Nat.min_eq_left h]
  · rw [Nat.min_eq_right h]
    have h1 : m < 2 ^ (m.log2 + 2) := Nat.lt_trans Nat.lt_log2_self (Nat.pow_lt_pow_right (by decide) (by omega))
    have h2 : m < 2 ^ d := Nat.lt_of_lt_of_le h1 (Nat.pow_le_pow_right (by decide) h)
    rw [Nat.div_eq_of_lt h1, Nat.div_eq_of_lt h2, Nat.mod_eq_of_lt h1, Nat.mod_eq_of_lt h2]
def whole (s : Bool) (c : Nat) : Option Int := floatToIntVal .f64 (FloatKind.f64.encode (.number s c 0)) .i64
theorem whole_is : ∀ c : Nat, c < 400 → whole false c = some (c : Int) ∧ whole true c = some (-(c : Int)) := by decide +kernel
/-- The whole number below, and 1000. -/
def fl6 (x : Nat) : Option Nat := decF 9223372036854775808 4503599627370496 9218868437227405312 x fun s m i => match Nat.ble i 1074 with
  | false => none
  | true => fn (Nat.shiftLeft 1 (Nat.sub 1074 i)) fun gap => fn (Nat.div m gap) fun low => match Nat.ble 399 low with
    | true => none
    | false => match s with
      | false => some (Nat.add 1000 low)
      | true => match Nat.mod m gap with
        | 0 => some (Nat.sub 1000 low)
        | _ + 1 => some (Nat.sub 999 low)
theorem fl6_is {x N : Nat} (h : fl6 x = some N) : floatToIntVal .f64 (FloatKind.f64.encode ((FloatKind.f64.decode x).integral .down)) .i64 = some ((N : Int) - 1000) := by
  unfold fl6 at h
  obtain ⟨s, m, i, hx, h⟩ := decF_some fm64 h
  show floatToIntVal .f64 (FloatKind.f64.encode ((FloatKind.f64.format.read x).integral .down)) .i64 = _
  rw [hx]
  cases h1 : Nat.ble i 1074 <;> rw [h1] at h
  · cases h
  · have h1 := Nat.le_of_ble_eq_true h1
    simp only [fn_eq] at h
    show floatToIntVal .f64 (FloatKind.f64.encode (.number s (Ieee.Toward.down.cut s (m <<< ((i : Int) - (1074 : Nat)).toNat) (-((i : Int) - (1074 : Nat))).toNat) 0)) .i64 = _
    rw [show ((i : Int) - (1074 : Nat)).toNat = 0 by omega, show (-((i : Int) - (1074 : Nat))).toNat = 1074 - i by omega, Nat.shiftLeft_zero, cut_down]
    have e1 : Nat.shiftLeft 1 (Nat.sub 1074 i) = 2 ^ (1074 - i) := Nat.one_shiftLeft _
    rw [e1] at h
    have e2 : Nat.div m (2 ^ (1074 - i)) = m / 2 ^ (1074 - i) := rfl
    have e3 : Nat.mod m (2 ^ (1074 - i)) = m % 2 ^ (1074 - i) := rfl
    rw [e2, e3] at h
    generalize m / 2 ^ (1074 - i) = low at h ⊢
    generalize m % 2 ^ (1074 - i) = rest at h ⊢
    cases h2 : Nat.ble 399 low <;> rw [h2] at h
    · have h2 := ble_lt h2
      cases s
      · have h : 1000 + low = N := by injection h
        refine (whole_is low (by omega)).1.trans ?_
        congr 1; omega
      · cases rest with
        | zero =>
          have h : 1000 - low = N := by injection h
          refine (whole_is low (by omega)).2.trans ?_
          congr 1; omega
        | succ k =>
          have h : 999 - low = N := by injection h
          refine (whole_is (low + 1) (by omega)).2.trans ?_
          congr 1; omega
    · cases h

/-! ### The logarithm's steps -/
def cK : List Nat := [4585925428558828667, 4586426698778222948, 4587023449039406616, 4587745830934523688, 4588638185040256542, 4589468260265693457, 4590207312512236308, 4591215111030249286, 4592670820000712476, 4594314991293244562, 4596373779694328218, 4599676419421066581, 4607182418800017408]
def qE (u : Nat) : List Nat → Nat → (Nat → Option Nat) → Option Nat
  | [], q, f => f q
  | c :: cs, q, f => fo (mul6 u q) fun m => fo (add6 c m) fun q2 => qE u cs q2 f
theorem cK_is : ∀ t : Nat, t < 13 → ar .quo .f64 (some one6) (some (fe (25 - 2 * t))) = some (cK.getD t 0) := by decide +kernel
theorem cK_len : cK.length = 13 := rfl
theorem qE_eq {u : Nat} {f : Nat → Option Nat} {N : Nat} : ∀ (n t q : Nat), n + t = 13 → qv (some u) t = some q → qE u (cK.drop t) q f = some N → ∃ r, qv (some u) 13 = some r ∧ f r = some N := by
  intro n
  induction n with
  | zero =>
    intro t q ht hq h
    obtain rfl : t = 13 := by omega
    exact ⟨q, hq, h⟩
  | succ n ih =>
    intro t q ht hq h
    have hlt : t < cK.length := by rw [cK_len]; omega
    have hd : cK.drop t = cK.getD t 0 :: cK.drop (t + 1) := by
      rw [List.drop_eq_getElem_cons hlt, List.getD_eq_getElem?_getD, List.getElem?_eq_getElem hlt]
      rfl
    rw [hd] at h
    obtain ⟨m, hm, h⟩ := fo_eq h
    obtain ⟨q2, hq2, h⟩ := fo_eq h
    refine ih (t + 1) q2 (by omega) ?_ h
    show ar .add .f64 (ar .quo .f64 (some one6) (some (fe (25 - 2 * t)))) (ar .mul .f64 (some u) (qv (some u) t)) = _
    rw [cK_is t (by omega), hq, mul6_is hm, add6_is hq2]
/-- The series: its first sum is known. -/
def qS (u : Nat) (f : Nat → Option Nat) : Option Nat :=
  match mul6 u 0 with
  | some 0 => qE u (cK.drop 1) 4585925428558828667 f
  | _ => none
theorem c0_is : ar .add .f64 (ar .quo .f64 (some one6) (some (fe (25 - 2 * ((0 : Nat) : Int))))) (some 0) = some 4585925428558828667 := by decide +kernel
theorem qS_eq {u : Nat} {f : Nat → Option Nat} {N : Nat} (h : qS u f = some N) : ∃ r, qv (some u) 13 = some r ∧ f r = some N := by
  unfold qS at h
  split at h
  · rename_i h0
    refine qE_eq 12 1 4585925428558828667 rfl ?_ h
    show ar .add .f64 (ar .quo .f64 (some one6) (some (fe (25 - 2 * ((0 : Nat) : Int))))) (ar .mul .f64 (some u) (some 0)) = _
    rw [mul6_is h0]
    exact c0_is
  · cases h

def upE : Nat → Nat → Nat → (Nat → Nat → Option Nat) → Option Nat
  | 0, _, _, _ => none
  | n + 1, v, j, f => match Nat.ble 9218868437227405312 v with
    | true => none
    | false => match Nat.ble hi6 v with
      | true => fo (quo6 v two6) fun v2 => upE n v2 (j + 1) f
      | false => f v j
theorem upE_eq {b : Nat} {f : Nat → Nat → Option Nat} {N : Nat} : ∀ (n v j : Nat), hv (some b) j = some v → (∀ t, t < j → cm .geq .f64 (hv (some b) t) (some hi6) = true) → upE n v j f = some N →
    ∃ v j, hv (some b) j = some v ∧ (∀ t, t < j → cm .geq .f64 (hv (some b) t) (some hi6) = true) ∧ cm .geq .f64 (hv (some b) j) (some hi6) = false ∧ f v j = some N := by
  intro n
  induction n with
  | zero => intro v j _ _ h; cases h
  | succ n ih =>
    intro v j h1 h2 h
    unfold upE at h
    cases hg : Nat.ble 9218868437227405312 v <;> rw [hg] at h
    · have hcm := ge6 hg (show Nat.ble 9218868437227405312 hi6 = false by decide)
      simp only at h
      cases hc : Nat.ble hi6 v <;> rw [hc] at h hcm
      · exact ⟨v, j, h1, h2, by rw [h1]; exact hcm, h⟩
      · obtain ⟨v2, hv2, h⟩ := fo_eq h
        refine ih v2 (j + 1) ?_ ?_ h
        · show ar .quo .f64 (hv (some b) j) (some two6) = _
          rw [h1, quo6_is hv2]
        · intro t ht
          by_cases htj : t = j
          · subst htj; rw [h1]; exact hcm
          · exact h2 t (by omega)
    · cases h
def dnE : Nat → Nat → Nat → (Nat → Nat → Option Nat) → Option Nat
  | 0, _, _, _ => none
  | n + 1, v, j, f => match Nat.ble 9218868437227405312 v with
    | true => none
    | false => match Nat.ble lo6 v with
      | false => fo (mul6 v two6) fun v2 => dnE n v2 (j + 1) f
      | true => f v j
theorem dnE_eq {b : Nat} {f : Nat → Nat → Option Nat} {N : Nat} : ∀ (n v j : Nat), dv (some b) j = some v → (∀ t, t < j → cm .lss .f64 (dv (some b) t) (some lo6) = true) → dnE n v j f = some N →
    ∃ v j, dv (some b) j = some v ∧ (∀ t, t < j → cm .lss .f64 (dv (some b) t) (some lo6) = true) ∧ cm .lss .f64 (dv (some b) j) (some lo6) = false ∧ f v j = some N := by
  intro n
  induction n with
  | zero => intro v j _ _ h; cases h
  | succ n ih =>
    intro v j h1 h2 h
    unfold dnE at h
    cases hg : Nat.ble 9218868437227405312 v <;> rw [hg] at h
    · have hcm := lt6 hg (show Nat.ble 9218868437227405312 lo6 = false by decide)
      simp only at h
      cases hc : Nat.ble lo6 v <;> rw [hc] at h hcm
      · obtain ⟨v2, hv2, h⟩ := fo_eq h
        refine ih v2 (j + 1) ?_ ?_ h
        · show ar .mul .f64 (dv (some b) j) (some two6) = _
          rw [h1, mul6_is hv2]
        · intro t ht
          by_cases htj : t = j
          · subst htj; rw [h1]; exact hcm
          · exact h2 t (by omega)
      · exact ⟨v, j, h1, h2, by rw [h1]; exact hcm, h⟩
    · cases h

/-- The end: the series, the tenths, rounded; and 1000. -/
def edE (x : Nat) (e : Int) : Option Nat :=
  fo (sub6 x one6) fun p => fo (add6 x one6) fun d => fo (quo6 p d) fun s => fo (mul6 s s) fun u => qS u fun q =>
  fo (mul6 s q) fun m => fo (mul6 two6 m) fun m2 => fo (mul6 (fe e) ln6) fun g => fo (add6 m2 g) fun l =>
  fo (mul6 l 4631308968768463603) fun a => fo (add6 a 4602678819172646912) fun r => fl6 r
theorem edE_eq {x : Nat} {e : Int} {N : Nat} (h : edE x e = some N) : ∃ r, ar .add .f64 (ar .mul .f64 (lgF (some x) e) (some 4631308968768463603)) (some 4602678819172646912) = some r ∧ floatToIntVal .f64 (FloatKind.f64.encode ((FloatKind.f64.decode r).integral .down)) .i64 = some ((N : Int) - 1000) := by
  unfold edE at h
  obtain ⟨p, hp, h⟩ := fo_eq h
  obtain ⟨d, hd, h⟩ := fo_eq h
  obtain ⟨s, hs, h⟩ := fo_eq h
  obtain ⟨u, hu, h⟩ := fo_eq h
  obtain ⟨q, hq, h⟩ := qS_eq h
  obtain ⟨m, hm, h⟩ := fo_eq h
  obtain ⟨m2, hm2, h⟩ := fo_eq h
  obtain ⟨g, hg, h⟩ := fo_eq h
  obtain ⟨l, hl, h⟩ := fo_eq h
  obtain ⟨a, ha, h⟩ := fo_eq h
  obtain ⟨r, hr, h⟩ := fo_eq h
  have e1 : sfV (some x) = some s := by unfold sfV; rw [sub6_is hp, add6_is hd, quo6_is hs]
  have e2 : lgF (some x) e = some l := by unfold lgF; rw [e1, mul6_is hu, hq, mul6_is hm, mul6_is hm2, mul6_is hg, add6_is hl]
  exact ⟨r, by rw [e2, mul6_is ha, add6_is hr], fl6_is h⟩
/-- The tenths, and 1000. -/
def tnE (y : Nat) : Option Nat := upE 20 y 0 fun v j => dnE 20 v 0 fun x i => edE x ((j : Int) - i)
theorem tn_n {b : Nat} {N : Nat} (h : tnE (upw b) = some N) : nV b = (N : Int) - 1000 := by
  obtain ⟨v, j, h1, h2, h3, h⟩ := upE_eq 20 (upw b) 0 rfl (fun t ht => absurd ht (Nat.not_lt_zero t)) h
  obtain ⟨x, i, h4, h5, h6, h⟩ := dnE_eq 20 v 0 rfl (fun t ht => absurd ht (Nat.not_lt_zero t)) h
  obtain ⟨r, h7, h8⟩ := edE_eq h
  rw [← h1] at h4 h5 h6
  have e : lgV (upw b) = lgF (some x) ((j : Int) - i) := lgV_eq ⟨j, i, h2, h3, h5, h6, by rw [h4]⟩
  unfold nV tV
  rw [e, h7]
  show (floatToIntVal .f64 (FloatKind.f64.encode ((FloatKind.f64.decode r).integral .down)) .i64).getD 0 = _
  rw [h8]; rfl

/-! ### The table -/
/-- The key of a word, its fraction first, so that numbers that differ by a power of two lie together; and back. -/
def rot (b : Nat) : Nat := Nat.add (Nat.mul (Nat.mod b 8388608) 512) (Nat.div b 8388608)
def tor (k : Nat) : Nat := Nat.add (Nat.mul (Nat.mod k 512) 8388608) (Nat.div k 512)
theorem tor_rot {b : Nat} (h : b < 2139095040) : tor (rot b) = b := by
  show (b % 8388608 * 512 + b / 8388608) % 512 * 8388608 + (b % 8388608 * 512 + b / 8388608) / 512 = b
  omega
/-- A number's check. -/
def chk (k : Nat) : Option Nat := fn (tor k) fun b => match Nat.ble 2139095040 b with
  | true => none
  | false => match b with
    | 0 => none
    | c + 1 => fn (upw (Nat.succ c)) fun y => tnE y
/-- A table of numbers (by their keys) and their tenths and 1000. -/
inductive Tr where
  | e : Tr
  | n (k N : Nat) (l r : Tr) : Tr
def isN (o : Option Nat) (N : Nat) : Bool := match o with
  | none => false
  | some M => Nat.beq M N
theorem isN_is {o : Option Nat} {N : Nat} : isN o N = true ↔ o = some N := by
  cases o with
  | none => exact ⟨(fun h => by cases h), (fun h => by cases h)⟩
  | some M => exact ⟨(fun h => by rw [Nat.eq_of_beq_eq_true h]), (fun h => by injection h with h; rw [h]; exact Nat.beq_refl N)⟩
def Tr.ok : Tr → Bool
  | .e => true
  | .n k N l r => isN (chk k) N && (l.ok && r.ok)
def Tr.at (t : Tr) (k : Nat) : Option Nat := match t with
  | .e => none
  | .n b N l r => match Nat.beq k b with
    | true => some N
    | false => match Nat.ble k b with
      | true => l.at k
      | false => r.at k
/-- What is told of a number in the table. -/
structure TnC (b N : Nat) : Prop where
  n : nV b = (N : Int) - 1000
  lt : b < 2139095040
  pos : FloatKind.f32.format.order b 0 = some .gt
  fin : rg .f32 b < FloatKind.f32.format.infRung
theorem chk_some {k N : Nat} (h : chk k = some N) : TnC (tor k) N := by
  unfold chk at h
  rw [fn_eq] at h
  generalize tor k = b at h ⊢
  cases h1 : Nat.ble 2139095040 b <;> rw [h1] at h
  · have h1 : b < 2139095040 := ble_lt h1
    cases b with
    | zero => cases h
    | succ c =>
      simp only [fn_eq] at h
      have e : FloatKind.f32.format.signWeight = 2147483648 := fm32.hS
      have hr : rg .f32 (c + 1) = c + 1 := by unfold rg; rw [e]; exact Nat.mod_eq_of_lt (by omega)
      have hf : rg .f32 (c + 1) < FloatKind.f32.format.infRung := by rw [hr, fm32.hI]; exact h1
      refine ⟨tn_n h, h1, ?_, hf⟩
      have hn := (not_nan_iff .f32 (c + 1)).2 (Nat.le_of_lt hf)
      have hs : sg .f32 (c + 1) = false := by
        unfold sg
        rw [e, Nat.div_eq_of_lt (by omega)]; rfl
      rw [order_pos .f32 (c + 1) 0 hn (by decide +kernel) hs (by decide +kernel), hr, show rg .f32 0 = 0 by decide +kernel]
      show some (if c + 1 < 0 then Ordering.lt else if c + 1 = 0 then .eq else .gt) = _
      rw [if_neg (by omega), if_neg (by omega)]
  · cases h
theorem ok_n {k N : Nat} {l r : Tr} : (Tr.n k N l r).ok = true ↔ chk k = some N ∧ l.ok = true ∧ r.ok = true := by
  rw [show (Tr.n k N l r).ok = (isN (chk k) N && (l.ok && r.ok)) from rfl, Bool.and_eq_true, Bool.and_eq_true, isN_is]
theorem Tr.at_ok {k N : Nat} : ∀ {t : Tr}, t.ok = true → t.at k = some N → TnC (tor k) N := by
  intro t
  induction t with
  | e => intro _ h; cases h
  | n b M l r il ir =>
    intro h1 h2
    obtain ⟨g1, g2, g3⟩ := ok_n.1 h1
    unfold Tr.at at h2
    cases hb : Nat.beq k b
    · rw [hb] at h2
      cases hl : Nat.ble k b
      · rw [hl] at h2; exact ir g3 h2
      · rw [hl] at h2; exact il g2 h2
    · rw [hb] at h2
      injection h2 with h2
      subst h2
      obtain rfl := Nat.eq_of_beq_eq_true hb
      exact chk_some g1
end Flo
end Go.Proofs.Ytpebdcimbdbbmaa
