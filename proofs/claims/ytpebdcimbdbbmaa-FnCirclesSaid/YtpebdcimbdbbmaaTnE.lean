/-
  The tenths of a number, reckoned step by step, each step to a number. Conditions: those that each theorem names.
-/
import Derived.Test.YtpebdcimbdbbmaaFnExactTenthsOfW
namespace Go.Proofs.Ytpebdcimbdbbmaa
namespace Flo
open Go Go.Proofs.Ytpebdcimbdbbmaa.fnExactTenthsOf

/-- On with a number, if there is one. -/
def fo (v : Option Nat) (f : Nat → Option Int) : Option Int :=
  match v with
  | none => none
  | some 0 => f 0
  | some (m + 1) => f (m + 1)
theorem fo_eq {v : Option Nat} {f : Nat → Option Int} {N : Int} (h : fo v f = some N) : ∃ c, v = some c ∧ f c = some N := by
  cases v with
  | none => cases h
  | some c =>
    cases c with
    | zero => exact ⟨0, rfl, h⟩
    | succ m => exact ⟨m + 1, rfl, h⟩

def cK : List Nat := [4585925428558828667, 4586426698778222948, 4587023449039406616, 4587745830934523688, 4588638185040256542, 4589468260265693457, 4590207312512236308, 4591215111030249286, 4592670820000712476, 4594314991293244562, 4596373779694328218, 4599676419421066581, 4607182418800017408]
def qE (u : Nat) : List Nat → Nat → (Nat → Option Int) → Option Int
  | [], q, f => f q
  | c :: cs, q, f => fo (ar .mul .f64 (some u) (some q)) fun m => fo (ar .add .f64 (some c) (some m)) fun q2 => qE u cs q2 f
theorem cK_is : ∀ t : Nat, t < 13 → ar .quo .f64 (some one6) (some (fe (25 - 2 * t))) = some (cK.getD t 0) := by decide +kernel
theorem cK_len : cK.length = 13 := rfl
theorem qE_eq {u : Nat} {f : Nat → Option Int} {N : Int} : ∀ (n t q : Nat), n + t = 13 → qv (some u) t = some q → qE u (cK.drop t) q f = some N → ∃ r, qv (some u) 13 = some r ∧ f r = some N := by
  intro n
  induction n with
  | zero =>
    intro t q ht hq h
    obtain rfl : t = 13 := by omega
    exact ⟨q, hq, h⟩
  | succ n ih =>
    intro t q ht hq h
    have hlt : t < cK.length := by rw [cK_len]; omega
    have hd : cK.drop t = cK.getD t 0 :: cK.drop (t + 1) := by
      rw [List.drop_eq_getElem_cons hlt, List.getD_eq_getElem?_getD, List.getElem?_eq_getElem hlt]
      rfl
    rw [hd] at h
    obtain ⟨m, hm, h⟩ := fo_eq h
    obtain ⟨q2, hq2, h⟩ := fo_eq h
    refine ih (t + 1) q2 (by omega) ?_ h
    show ar .add .f64 (ar .quo .f64 (some one6) (some (fe (25 - 2 * t)))) (ar .mul .f64 (some u) (qv (some u) t)) = _
    rw [cK_is t (by omega), hq, hm, hq2]

def upE : Nat → Nat → Nat → (Nat → Nat → Option Int) → Option Int
  | 0, _, _, _ => none
  | n + 1, v, j, f => match cm .geq .f64 (some v) (some hi6) with
    | true => fo (ar .quo .f64 (some v) (some two6)) fun v2 => upE n v2 (j + 1) f
    | false => f v j
theorem upE_eq {b : Nat} {f : Nat → Nat → Option Int} {N : Int} : ∀ (n v j : Nat), hv (some b) j = some v → (∀ t, t < j → cm .geq .f64 (hv (some b) t) (some hi6) = true) → upE n v j f = some N →
    ∃ v j, hv (some b) j = some v ∧ (∀ t, t < j → cm .geq .f64 (hv (some b) t) (some hi6) = true) ∧ cm .geq .f64 (hv (some b) j) (some hi6) = false ∧ f v j = some N := by
  intro n
  induction n with
  | zero => intro v j _ _ h; cases h
  | succ n ih =>
    intro v j h1 h2 h
    unfold upE at h
    cases hc : cm .geq .f64 (some v) (some hi6)
    · rw [hc] at h
      exact ⟨v, j, h1, h2, by rw [h1]; exact hc, h⟩
    · rw [hc] at h
      obtain ⟨v2, hv2, h⟩ := fo_eq h
      refine ih v2 (j + 1) ?_ ?_ h
      · show ar .quo .f64 (hv (some b) j) (some two6) = _
        rw [h1, hv2]
      · intro t ht
        by_cases htj : t = j
        · subst htj; rw [h1]; exact hc
        · exact h2 t (by omega)
def dnE : Nat → Nat → Nat → (Nat → Nat → Option Int) → Option Int
  | 0, _, _, _ => none
  | n + 1, v, j, f => match cm .lss .f64 (some v) (some lo6) with
    | true => fo (ar .mul .f64 (some v) (some two6)) fun v2 => dnE n v2 (j + 1) f
    | false => f v j
theorem dnE_eq {b : Nat} {f : Nat → Nat → Option Int} {N : Int} : ∀ (n v j : Nat), dv (some b) j = some v → (∀ t, t < j → cm .lss .f64 (dv (some b) t) (some lo6) = true) → dnE n v j f = some N →
    ∃ v j, dv (some b) j = some v ∧ (∀ t, t < j → cm .lss .f64 (dv (some b) t) (some lo6) = true) ∧ cm .lss .f64 (dv (some b) j) (some lo6) = false ∧ f v j = some N := by
  intro n
  induction n with
  | zero => intro v j _ _ h; cases h
  | succ n ih =>
    intro v j h1 h2 h
    unfold dnE at h
    cases hc : cm .lss .f64 (some v) (some lo6)
    · rw [hc] at h
      exact ⟨v, j, h1, h2, by rw [h1]; exact hc, h⟩
    · rw [hc] at h
      obtain ⟨v2, hv2, h⟩ := fo_eq h
      refine ih v2 (j + 1) ?_ ?_ h
      · show ar .mul .f64 (dv (some b) j) (some two6) = _
        rw [h1, hv2]
      · intro t ht
        by_cases htj : t = j
        · subst htj; rw [h1]; exact hc
        · exact h2 t (by omega)

/-- The end: the series, the tenths, rounded. -/
def edE (x : Nat) (e : Int) : Option Int :=
  fo (ar .sub .f64 (some x) (some one6)) fun p => fo (ar .add .f64 (some x) (some one6)) fun d => fo (ar .quo .f64 (some p) (some d)) fun s => fo (ar .mul .f64 (some s) (some s)) fun u => qE u cK 0 fun q =>
  fo (ar .mul .f64 (some s) (some q)) fun m => fo (ar .mul .f64 (some two6) (some m)) fun m2 => fo (ar .mul .f64 (some (fe e)) (some ln6)) fun g => fo (ar .add .f64 (some m2) (some g)) fun l =>
  fo (ar .mul .f64 (some l) (some 4631308968768463603)) fun a => fo (ar .add .f64 (some a) (some 4602678819172646912)) fun r => floatToIntVal .f64 (FloatKind.f64.encode ((FloatKind.f64.decode r).integral .down)) .i64
theorem edE_eq {x : Nat} {e N : Int} (h : edE x e = some N) : ∃ r, ar .add .f64 (ar .mul .f64 (lgF (some x) e) (some 4631308968768463603)) (some 4602678819172646912) = some r ∧ floatToIntVal .f64 (FloatKind.f64.encode ((FloatKind.f64.decode r).integral .down)) .i64 = some N := by
  unfold edE at h
  obtain ⟨p, hp, h⟩ := fo_eq h
  obtain ⟨d, hd, h⟩ := fo_eq h
  obtain ⟨s, hs, h⟩ := fo_eq h
  obtain ⟨u, hu, h⟩ := fo_eq h
  obtain ⟨q, hq, h⟩ := qE_eq 13 0 0 rfl rfl h
  obtain ⟨m, hm, h⟩ := fo_eq h
  obtain ⟨m2, hm2, h⟩ := fo_eq h
  obtain ⟨g, hg, h⟩ := fo_eq h
  obtain ⟨l, hl, h⟩ := fo_eq h
  obtain ⟨a, ha, h⟩ := fo_eq h
  obtain ⟨r, hr, h⟩ := fo_eq h
  have e1 : sfV (some x) = some s := by unfold sfV; rw [hp, hd, hs]
  have e2 : lgF (some x) e = some l := by unfold lgF; rw [e1, hu, hq, hm, hm2, hg, hl]
  exact ⟨r, by rw [e2, ha, hr], h⟩
/-- The tenths. -/
def tnE (y : Nat) : Option Int := upE 20 y 0 fun v j => dnE 20 v 0 fun x i => edE x ((j : Int) - i)
theorem tn_n {b : Nat} {N : Int} (h : tnE (upw b) = some N) : nV b = N := by
  obtain ⟨v, j, h1, h2, h3, h⟩ := upE_eq 20 (upw b) 0 rfl (fun t ht => absurd ht (Nat.not_lt_zero t)) h
  obtain ⟨x, i, h4, h5, h6, h⟩ := dnE_eq 20 v 0 rfl (fun t ht => absurd ht (Nat.not_lt_zero t)) h
  obtain ⟨r, h7, h8⟩ := edE_eq h
  rw [← h1] at h4 h5 h6
  have e : lgV (upw b) = lgF (some x) ((j : Int) - i) := lgV_eq ⟨j, i, h2, h3, h5, h6, by rw [h4]⟩
  unfold nV tV
  rw [e, h7]
  show (floatToIntVal .f64 (FloatKind.f64.encode ((FloatKind.f64.decode r).integral .down)) .i64).getD 0 = N
  rw [h8]; rfl

/-- A table of numbers and their tenths and 1000. -/
inductive Tr where
  | e : Tr
  | n (b N : Nat) (l r : Tr) : Tr
def Tr.ok : Tr → Bool
  | .e => true
  | .n b N l r => (match tnE (upw b) with | some M => M + 1000 == (N : Int) | none => false) && (decide (b < 2139095040) && (FloatKind.f32.format.order b 0 == some .gt) && (decide (rg .f32 b < 2139095040) && (l.ok && r.ok)))
def Tr.at (t : Tr) (k : Nat) : Option Nat := match t with
  | .e => none
  | .n b N l r => match Nat.beq k b with
    | true => some N
    | false => match Nat.ble k b with
      | true => l.at k
      | false => r.at k
/-- What is told of a number in the table. -/
structure TnC (b N : Nat) : Prop where
  n : nV b = (N : Int) - 1000
  lt : b < 2139095040
  pos : FloatKind.f32.format.order b 0 = some .gt
  fin : rg .f32 b < FloatKind.f32.format.infRung
theorem Tr.at_ok {k N : Nat} : ∀ {t : Tr}, t.ok = true → t.at k = some N → TnC k N := by
  intro t
  induction t with
  | e => intro _ h; cases h
  | n b M l r il ir =>
    intro h1 h2
    unfold Tr.ok at h1
    simp only [Bool.and_eq_true] at h1
    obtain ⟨g1, ⟨g2, g3⟩, g4, g5, g6⟩ := h1
    unfold Tr.at at h2
    cases hb : Nat.beq k b
    · rw [hb] at h2
      cases hl : Nat.ble k b
      · rw [hl] at h2; exact ir g6 h2
      · rw [hl] at h2; exact il g5 h2
    · rw [hb] at h2
      injection h2 with h2
      subst h2
      obtain rfl := Nat.eq_of_beq_eq_true hb
      refine ⟨?_, of_decide_eq_true g2, by simpa using g3, of_decide_eq_true g4⟩
      cases hm : tnE (upw k) with
      | none => rw [hm] at g1; cases g1
      | some Z =>
        rw [hm] at g1
        have e1 := tn_n hm
        have e2 : Z + 1000 = (M : Int) := eq_of_beq g1
        rw [e1]; omega
end Flo
end Go.Proofs.Ytpebdcimbdbbmaa
