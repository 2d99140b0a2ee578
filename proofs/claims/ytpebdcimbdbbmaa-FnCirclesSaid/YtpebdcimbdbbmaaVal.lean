/-
  What a float's bits are worth: the magnitude as a whole number of the format's least places, the order of bits as the order of these numbers, and that a float32 keeps its worth as a float64. Conditions: those that each theorem names.
-/
import Derived.Test.YtpebdcimbdbbmaaFlo
namespace Go.Proofs.Ytpebdcimbdbbmaa
namespace Flo
open Go

/-! ### Magnitudes -/

/-- The magnitude of rung r, in least places; B: the rungs of a binade. -/
def mg (B r : Nat) : Nat := if r < B then r else (B + r % B) * 2 ^ (r / B - 1)

theorem mg_lt {B : Nat} (hB : 0 < B) {r s : Nat} (h : r < s) : mg B r < mg B s := by
  unfold mg
  by_cases hr : r < B
  · rw [if_pos hr]
    by_cases hs : s < B
    · rw [if_pos hs]; exact h
    · rw [if_neg hs]
      have h1 : B ≤ (B + s % B) * 2 ^ (s / B - 1) := Nat.le_trans (Nat.le_add_right B _) (Nat.le_mul_of_pos_right _ (Nat.two_pow_pos _))
      omega
  · have hs : ¬ s < B := by omega
    rw [if_neg hr, if_neg hs]
    have hq : r / B ≤ s / B := Nat.div_le_div_right (by omega)
    have hq1 : 1 ≤ r / B := (Nat.one_le_div_iff hB).2 (by omega)
    have er := Nat.div_add_mod r B
    have es := Nat.div_add_mod s B
    have mr := Nat.mod_lt r hB
    rcases Nat.lt_or_ge (r / B) (s / B) with hlt | hge
    · have h1 : (B + r % B) * 2 ^ (r / B - 1) < (2 * B) * 2 ^ (r / B - 1) := Nat.mul_lt_mul_of_pos_right (by omega) (Nat.two_pow_pos _)
      have h2 : (2 * B) * 2 ^ (r / B - 1) = B * 2 ^ (r / B) := by
        obtain ⟨q, hq⟩ : ∃ q, r / B = q + 1 := ⟨r / B - 1, by omega⟩
        rw [hq, Nat.add_sub_cancel, Nat.pow_succ]
        rw [Nat.mul_comm 2 B, Nat.mul_assoc, Nat.mul_comm 2]
      have h3 : B * 2 ^ (r / B) ≤ B * 2 ^ (s / B - 1) := Nat.mul_le_mul_left _ (Nat.pow_le_pow_right (by decide) (by omega))
      have h4 : B * 2 ^ (s / B - 1) ≤ (B + s % B) * 2 ^ (s / B - 1) := Nat.mul_le_mul_right _ (Nat.le_add_right _ _)
      omega
    · have heq : r / B = s / B := by omega
      rw [heq] at er
      have : r % B < s % B := by omega
      rw [heq]
      exact Nat.mul_lt_mul_of_pos_right (by omega) (Nat.two_pow_pos _)

theorem mg_le {B : Nat} (hB : 0 < B) {r s : Nat} (h : r ≤ s) : mg B r ≤ mg B s := by
  rcases Nat.lt_or_eq_of_le h with h | h
  · exact Nat.le_of_lt (mg_lt hB h)
  · rw [h]; exact Nat.le_refl _

theorem mg_inj {B : Nat} (hB : 0 < B) {r s : Nat} (h : mg B r = mg B s) : r = s := by
  rcases Nat.lt_trichotomy r s with h1 | h1 | h1
  · have := mg_lt hB h1; omega
  · exact h1
  · have := mg_lt hB h1; omega

/-- The rung that keeps k digits over q binades. -/
theorem mg_at {B q k : Nat} (hB : 0 < B) (h : (q = 0 ∨ B ≤ k)) (hk : k ≤ 2 * B) : mg B (q * B + k) = k * 2 ^ q := by
  unfold mg
  rcases Nat.lt_or_ge k B with hlt | hge
  · have hq : q = 0 := by omega
    subst hq
    rw [if_pos (by omega)]; simp
  · have hqk : B ≤ q * B + k := Nat.le_trans hge (Nat.le_add_left _ _)
    rw [if_neg (by omega)]
    rcases Nat.lt_or_ge k (2 * B) with h2 | h2
    · have e1 : (q * B + k) / B = q + 1 := by
        have : q * B + k = (k - B) + B * (q + 1) := by rw [Nat.mul_add, Nat.mul_comm B q]; omega
        rw [this, Nat.add_mul_div_left _ _ hB, Nat.div_eq_of_lt (by omega)]; omega
      have e2 : (q * B + k) % B = k - B := by
        have : q * B + k = (k - B) + B * (q + 1) := by rw [Nat.mul_add, Nat.mul_comm B q]; omega
        rw [this, Nat.add_mul_mod_self_left, Nat.mod_eq_of_lt (by omega)]
      rw [e1, e2, Nat.add_sub_cancel]
      congr 1; omega
    · have hk2 : k = 2 * B := by omega
      subst hk2
      have e1 : (q * B + 2 * B) / B = q + 2 := by
        have : q * B + 2 * B = 0 + B * (q + 2) := by rw [Nat.mul_add, Nat.mul_comm B q]; omega
        rw [this, Nat.add_mul_div_left _ _ hB]; simp
      have e2 : (q * B + 2 * B) % B = 0 := by
        have : q * B + 2 * B = 0 + B * (q + 2) := by rw [Nat.mul_add, Nat.mul_comm B q]; omega
        rw [this, Nat.add_mul_mod_self_left]; simp
      rw [e1, e2, Nat.add_zero, show q + 2 - 1 = q + 1 from by omega, Nat.pow_succ]
      rw [Nat.mul_comm 2 B, Nat.mul_assoc, Nat.mul_comm 2]

/-! ### Words -/

/-- The sign and the worth of a word. -/
def sg (k : FloatKind) (b : Nat) : Bool := b / k.format.signWeight % 2 == 1
def rg (k : FloatKind) (b : Nat) : Nat := b % k.format.signWeight
def sv (k : FloatKind) (b : Nat) : Int := if sg k b then -(mg k.format.binade (rg k b) : Int) else (mg k.format.binade (rg k b) : Int)

theorem binade_pos (k : FloatKind) : 0 < k.format.binade := Nat.two_pow_pos _

theorem binade_lt_inf (k : FloatKind) : k.format.binade < k.format.infRung := by cases k <;> decide

/-- A number's reading. -/
theorem read_num (k : FloatKind) (b : Nat) (h : rg k b < k.format.infRung) :
    ∃ m e, k.format.read b = .number (sg k b) m e ∧ k.format.leastPlace ≤ e ∧ m * 2 ^ (e - k.format.leastPlace).toNat = mg k.format.binade (rg k b) := by
  unfold Ieee.Format.read
  simp only
  by_cases h1 : b % k.format.signWeight < k.format.binade
  · rw [if_pos h1]
    refine ⟨_, _, rfl, Int.le_refl _, ?_⟩
    unfold mg rg
    rw [if_pos h1]; simp
  · rw [if_neg h1, if_pos (show b % k.format.signWeight < k.format.infRung from h)]
    refine ⟨_, _, rfl, by omega, ?_⟩
    unfold mg rg
    rw [if_neg h1]
    congr 2
    omega

theorem read_inf (k : FloatKind) (b : Nat) (h : rg k b = k.format.infRung) : k.format.read b = .infinity (sg k b) := by
  have hl := binade_lt_inf k
  unfold rg at h
  unfold Ieee.Format.read
  simp only [h]
  rw [if_neg (by omega), if_neg (by omega)]
  simp [sg]

theorem not_nan_iff (k : FloatKind) (b : Nat) : nan k b = false ↔ rg k b ≤ k.format.infRung := by
  rw [nan_iff]; unfold rg; simp

theorem cmp_int (a b : Int) : compare a b = if a < b then .lt else if a = b then .eq else .gt := rfl

theorem cmp_mul (a b : Int) (c : Nat) (hc : 0 < c) : compare (a * c) (b * c) = compare a b := by
  have hc' : (0 : Int) < (c : Int) := by omega
  rw [cmp_int, cmp_int]
  by_cases h1 : a < b
  · rw [if_pos h1, if_pos (Int.mul_lt_mul_of_pos_right h1 hc')]
  · rw [if_neg h1]
    by_cases h2 : a = b
    · subst h2; simp
    · have h3 : b < a := by omega
      have h4 := Int.mul_lt_mul_of_pos_right h3 hc'
      rw [if_neg h2, if_neg (by omega), if_neg (by omega)]

theorem signed_eq (s : Bool) (m u : Nat) : Ieee.signed s m u = if s then -((m * 2 ^ u : Nat) : Int) else ((m * 2 ^ u : Nat) : Int) := by
  unfold Ieee.signed; rw [Nat.shiftLeft_eq]

theorem signed_mul (s : Bool) (m u c : Nat) : Ieee.signed s m u * ((2 ^ c : Nat) : Int) = Ieee.signed s m (u + c) := by
  rw [signed_eq, signed_eq, Nat.pow_add]
  cases s
  · simp only [Bool.false_eq_true, if_false]; rw [← Nat.mul_assoc]; exact (Int.natCast_mul _ _).symm
  · simp only [if_true]; rw [← Nat.mul_assoc, Int.natCast_mul (m * 2 ^ u), Int.neg_mul]

theorem sv_num {k : FloatKind} {b : Nat} {m : Nat} {e : Int} (he : m * 2 ^ (e - k.format.leastPlace).toNat = mg k.format.binade (rg k b)) : sv k b = Ieee.signed (sg k b) m (e - k.format.leastPlace).toNat := by
  unfold sv
  rw [signed_eq, he]

theorem mg_inf_gt (k : FloatKind) {r : Nat} (h : r < k.format.infRung) : mg k.format.binade r < mg k.format.binade k.format.infRung := mg_lt (binade_pos k) h

theorem sv_inf {k : FloatKind} {b : Nat} (h : rg k b = k.format.infRung) : sv k b = if sg k b then -(mg k.format.binade k.format.infRung : Int) else (mg k.format.binade k.format.infRung : Int) := by
  unfold sv; rw [h]

theorem sv_fin_abs {k : FloatKind} {b : Nat} (h : rg k b < k.format.infRung) : -(mg k.format.binade k.format.infRung : Int) < sv k b ∧ sv k b < (mg k.format.binade k.format.infRung : Int) := by
  have := mg_inf_gt k h
  unfold sv
  split <;> omega

/-- THE ORDER OF WORDS IS THE ORDER OF THEIR WORTHS. -/
theorem order_sv (k : FloatKind) (x y : Nat) (hx : nan k x = false) (hy : nan k y = false) : k.format.order x y = some (compare (sv k x) (sv k y)) := by
  rw [not_nan_iff] at hx hy
  have hpos : 0 < mg k.format.binade k.format.infRung := by
    have := mg_lt (binade_pos k) (show 0 < k.format.infRung from Nat.lt_trans (binade_pos k) (binade_lt_inf k))
    omega
  unfold Ieee.Format.order
  rcases Nat.lt_or_eq_of_le hx with hx | hx
  · obtain ⟨m, i, ex, hi, emx⟩ := read_num k x hx
    rcases Nat.lt_or_eq_of_le hy with hy | hy
    · obtain ⟨n, j, ey, hj, emy⟩ := read_num k y hy
      rw [ex, ey]
      simp only [Ieee.Datum.order]
      rw [sv_num emx, sv_num emy]
      congr 1
      rw [← cmp_mul _ _ (2 ^ (min i j - k.format.leastPlace).toNat) (Nat.two_pow_pos _), signed_mul, signed_mul]
      congr 3 <;> omega
    · have hb := sv_fin_abs hx
      rw [ex, read_inf k y hy, sv_inf hy]
      simp only [Ieee.Datum.order]
      cases sg k y
      · simp only [Bool.false_eq_true, if_false]; rw [cmp_int, if_pos hb.2]
      · simp only [if_true]; rw [cmp_int, if_neg (by omega), if_neg (by omega)]
  · rcases Nat.lt_or_eq_of_le hy with hy | hy
    · obtain ⟨n, j, ey, hj, emy⟩ := read_num k y hy
      have hb := sv_fin_abs hy
      rw [ey, read_inf k x hx, sv_inf hx]
      simp only [Ieee.Datum.order]
      cases sg k x
      · simp only [Bool.false_eq_true, if_false]; rw [cmp_int, if_neg (by omega), if_neg (by omega)]
      · simp only [if_true]; rw [cmp_int, if_pos hb.1]
    · rw [read_inf k x hx, read_inf k y hy, sv_inf hx, sv_inf hy]
      simp only [Ieee.Datum.order]
      cases sg k x <;> cases sg k y <;> simp only [Bool.false_eq_true, if_false, if_true] <;> rw [cmp_int]
      · simp
      · rw [if_neg (by omega), if_neg (by omega)]; rfl
      · rw [if_pos (by omega)]; rfl
      · simp

theorem order_self {k : FloatKind} {b : Nat} (h : nan k b = false) : k.format.order b b = some .eq := by
  rw [order_sv k b b h h, cmp_int]; simp

theorem order_nan {k : FloatKind} {b : Nat} (h : nan k b = true) : k.format.order b b = none := order_left h

/-! ### A number is written as it is where the format has it -/

theorem cut_zero (way : Ieee.Toward) (neg : Bool) (n : Nat) : way.cut neg n 0 = n := by
  unfold Ieee.Toward.cut
  cases way <;> simp [Nat.mod_one]

/-- The word of a number that the format has: 'mag * 2 ^ place', its digits few, its place not too low, its size not too great. -/
theorem nearest_exact (k : FloatKind) (s : Bool) (m : Nat) (p : Int) (hm : m < 2 * k.format.binade) (hp : k.format.leastPlace ≤ p)
    (hbig : m * 2 ^ (p - k.format.leastPlace).toNat < mg k.format.binade k.format.infRung) :
    ∃ r, k.format.nearest s m p = k.format.word s r ∧ r < k.format.infRung ∧ mg k.format.binade r = m * 2 ^ (p - k.format.leastPlace).toNat := by
  unfold Ieee.Format.nearest
  by_cases h0 : m = 0
  · rw [if_pos h0]
    refine ⟨0, rfl, Nat.lt_trans (binade_pos k) (binade_lt_inf k), ?_⟩
    subst h0
    unfold mg; rw [if_pos (binade_pos k)]; simp
  · rw [if_neg h0]
    simp only
    have hfb : k.format.binade = 2 ^ k.format.fractionBits := rfl
    have hlog : m.log2 ≤ k.format.fractionBits := by
      have : m < 2 ^ (k.format.fractionBits + 1) := by rw [Nat.pow_succ, ← hfb]; omega
      have := (Nat.log2_lt h0).2 this
      omega
    generalize hl : max (p + m.log2 - k.format.fractionBits) k.format.leastPlace = last
    have hlp : last ≤ p := by omega
    have hll : k.format.leastPlace ≤ last := by omega
    rw [show (last - p).toNat = 0 from by omega, cut_zero, Nat.shiftLeft_eq]
    generalize hu : (p - last).toNat = u
    generalize hq : (last - k.format.leastPlace).toNat = q
    have huq : (p - k.format.leastPlace).toNat = u + q := by omega
    rw [huq] at hbig ⊢
    have hlo : 2 ^ m.log2 ≤ m := Nat.log2_self_le h0
    have hhi : m < 2 ^ (m.log2 + 1) := Nat.lt_log2_self
    have hk2 : m * 2 ^ u ≤ 2 * k.format.binade := by
      have : m.log2 + 1 + u ≤ k.format.fractionBits + 1 ∨ u = 0 := by omega
      rcases this with h | h
      · have h1 : m * 2 ^ u ≤ 2 ^ (m.log2 + 1) * 2 ^ u := Nat.mul_le_mul_right _ (Nat.le_of_lt hhi)
        rw [← Nat.pow_add] at h1
        have h2 : 2 ^ (m.log2 + 1 + u) ≤ 2 ^ (k.format.fractionBits + 1) := Nat.pow_le_pow_right (by decide) h
        rw [Nat.pow_succ 2 k.format.fractionBits, ← hfb] at h2
        omega
      · subst h; simp; omega
    have hk1 : q = 0 ∨ k.format.binade ≤ m * 2 ^ u := by
      by_cases hq0 : q = 0
      · exact .inl hq0
      · right
        have : u + m.log2 = k.format.fractionBits := by omega
        have h1 : 2 ^ m.log2 * 2 ^ u ≤ m * 2 ^ u := Nat.mul_le_mul_right _ hlo
        rw [← Nat.pow_add, Nat.add_comm m.log2, this, ← hfb] at h1
        exact h1
    have hmg := mg_at (q := q) (binade_pos k) hk1 hk2
    rw [Nat.mul_assoc, ← Nat.pow_add] at hmg
    have hlt : q * k.format.binade + m * 2 ^ u < k.format.infRung := by
      rcases Nat.lt_or_ge (q * k.format.binade + m * 2 ^ u) k.format.infRung with h | h
      · exact h
      · have := mg_le (binade_pos k) h
        omega
    exact ⟨_, by rw [Nat.min_eq_left (Nat.le_of_lt hlt)], hlt, hmg⟩

theorem word_sg (k : FloatKind) (s : Bool) (r : Nat) (h : r ≤ k.format.infRung) : sg k (k.format.word s r) = s ∧ rg k (k.format.word s r) = r := by
  have hw : k.format.infRung < k.format.signWeight := Ieee.Format.infRung_lt _
  unfold sg rg Ieee.Format.word
  cases s
  · simp only [Bool.false_eq_true, if_false]
    refine ⟨?_, Nat.mod_eq_of_lt (by omega)⟩
    rw [Nat.div_eq_of_lt (by omega)]
    rfl
  · simp only [if_true]
    have h1 : (k.format.signWeight + r) / k.format.signWeight = 1 := by
      rw [Nat.add_div_left _ (by omega), Nat.div_eq_of_lt (by omega)]
    refine ⟨by rw [h1]; rfl, ?_⟩
    rw [Nat.add_mod_left, Nat.mod_eq_of_lt (by omega)]

theorem word_sv (k : FloatKind) (s : Bool) (r : Nat) (h : r ≤ k.format.infRung) : sv k (k.format.word s r) = if s then -(mg k.format.binade r : Int) else (mg k.format.binade r : Int) := by
  obtain ⟨h1, h2⟩ := word_sg k s r h
  unfold sv; rw [h1, h2]

/-- A word is the word of its sign and its rung. -/
theorem word_of (k : FloatKind) (b : Nat) (h : b < 2 ^ k.format.width) : k.format.word (sg k b) (rg k b) = b := by
  have two : 2 ^ k.format.width = 2 * k.format.signWeight := by cases k <;> rfl
  rw [two] at h
  have hw : 0 < k.format.signWeight := Nat.two_pow_pos _
  have hd := Nat.div_add_mod b k.format.signWeight
  unfold sg rg Ieee.Format.word
  have hq : b / k.format.signWeight < 2 := (Nat.div_lt_iff_lt_mul hw).2 h
  generalize b / k.format.signWeight = q at *
  rcases (show q = 0 ∨ q = 1 by omega) with h | h <;> subst h <;> simp at hd ⊢ <;> omega

/-! ### A float32 as a float64 -/

/-- How many places lower a float64's least place is than a float32's. -/
def E9 : Nat := 925

def upw (b : Nat) : Nat := FloatKind.f64.encode (FloatKind.f32.decode b)

theorem up_some (b : Nat) : up (some b) = some (upw b) := rfl

theorem upw_inf (b : Nat) (h : rg .f32 b = FloatKind.f32.format.infRung) : upw b = FloatKind.f64.format.word (sg .f32 b) FloatKind.f64.format.infRung := by
  unfold upw FloatKind.decode FloatKind.encode
  rw [read_inf .f32 b h]
  rfl

theorem upw_fin (b : Nat) (h : rg .f32 b < FloatKind.f32.format.infRung) :
    ∃ r, upw b = FloatKind.f64.format.word (sg .f32 b) r ∧ r < FloatKind.f64.format.infRung ∧ mg FloatKind.f64.format.binade r = mg FloatKind.f32.format.binade (rg .f32 b) * 2 ^ E9 := by
  unfold upw FloatKind.decode FloatKind.encode
  have hB : FloatKind.f32.format.binade = 8388608 := rfl
  have hB6 : FloatKind.f64.format.binade = 4503599627370496 := rfl
  have hL : FloatKind.f32.format.leastPlace = -149 := rfl
  have hL6 : FloatKind.f64.format.leastPlace = -1074 := rfl
  have hI : FloatKind.f32.format.infRung = 2139095040 := rfl
  obtain ⟨m, e, er, he, hm⟩ := read_num .f32 b h
  have hml : m < 2 * FloatKind.f32.format.binade := by
    unfold Ieee.Format.read at er
    simp only at er
    split at er
    · injection er with _ h1 _; rw [← h1]; omega
    · split at er
      · injection er with _ h1 _
        rw [← h1]
        have := Nat.mod_lt (b % FloatKind.f32.format.signWeight) (binade_pos .f32)
        omega
      · split at er <;> cases er
  rw [er]
  show ∃ r, FloatKind.f64.format.nearest (sg .f32 b) m e = _ ∧ _
  rw [hL] at he hm
  have hpe : (e - FloatKind.f64.format.leastPlace).toNat = (e - -149).toNat + E9 := by rw [hL6]; unfold E9; omega
  have hval : m * 2 ^ (e - FloatKind.f64.format.leastPlace).toNat = mg FloatKind.f32.format.binade (rg .f32 b) * 2 ^ E9 := by
    rw [hpe, Nat.pow_add, ← Nat.mul_assoc, hm]
  have hlt : mg FloatKind.f32.format.binade (rg .f32 b) * 2 ^ E9 < mg FloatKind.f64.format.binade FloatKind.f64.format.infRung := by
    have h1 := mg_inf_gt .f32 h
    have h2 : mg FloatKind.f32.format.binade FloatKind.f32.format.infRung * 2 ^ E9 ≤ mg FloatKind.f64.format.binade FloatKind.f64.format.infRung := by decide +kernel
    exact Nat.lt_of_lt_of_le (Nat.mul_lt_mul_of_pos_right h1 (Nat.two_pow_pos _)) h2
  obtain ⟨r, hr1, hr2, hr3⟩ := nearest_exact .f64 (sg .f32 b) m e (by omega) (by omega) (by rw [hval]; exact hlt)
  exact ⟨r, hr1, hr2, by rw [hr3, hval]⟩

theorem upw_nan {b : Nat} (h : nan .f32 b = false) : nan .f64 (upw b) = false := by
  rw [not_nan_iff] at h
  rcases Nat.lt_or_eq_of_le h with h | h
  · obtain ⟨r, e, hr, _⟩ := upw_fin b h
    rw [e]; exact word_nan .f64 _ _ (Nat.le_of_lt hr)
  · rw [upw_inf b h]; exact word_nan .f64 _ _ (Nat.le_refl _)

theorem upw_lt (b : Nat) : upw b < 2 ^ FloatKind.f64.format.width := FloatKind.f64.format.write_lt _

theorem rep_up {v : Option Nat} {b : Nat} (h : Rep .f32 v b) : v ≠ none → Rep .f64 (up v) (upw b) := by
  cases v with
  | none => intro h; exact absurd rfl h
  | some c =>
    intro _
    have hb : b = c := h.some
    subst hb
    exact rep_some (upw_lt b) (upw_nan h.2.2)

theorem up_sv {b : Nat} (h : rg .f32 b < FloatKind.f32.format.infRung) : sv .f64 (upw b) = sv .f32 b * ((2 ^ E9 : Nat) : Int) := by
  obtain ⟨r, e, hr, hm⟩ := upw_fin b h
  rw [e, word_sv .f64 _ _ (Nat.le_of_lt hr), hm]
  unfold sv
  split
  · rw [Int.natCast_mul, Int.neg_mul]
  · rw [Int.natCast_mul]

/-- THE ORDER OF TWO float32 AS float64. -/
theorem order_up {x y : Nat} (hx : nan .f32 x = false) (hy : nan .f32 y = false) : FloatKind.f64.format.order (upw x) (upw y) = FloatKind.f32.format.order x y := by
  rw [order_sv .f64 _ _ (upw_nan hx) (upw_nan hy), order_sv .f32 _ _ hx hy]
  rw [not_nan_iff] at hx hy
  have big : ∀ b, rg .f32 b < FloatKind.f32.format.infRung → -(mg FloatKind.f64.format.binade FloatKind.f64.format.infRung : Int) < sv .f64 (upw b) ∧ sv .f64 (upw b) < (mg FloatKind.f64.format.binade FloatKind.f64.format.infRung : Int) := by
    intro b hb
    obtain ⟨r, e, hr, hm⟩ := upw_fin b hb
    refine sv_fin_abs ?_
    rw [e, (word_sg .f64 _ _ (Nat.le_of_lt hr)).2]; exact hr
  have iv : ∀ b, rg .f32 b = FloatKind.f32.format.infRung → sv .f64 (upw b) = if sg .f32 b then -(mg FloatKind.f64.format.binade FloatKind.f64.format.infRung : Int) else (mg FloatKind.f64.format.binade FloatKind.f64.format.infRung : Int) := by
    intro b hb
    rw [upw_inf b hb, word_sv .f64 _ _ (Nat.le_refl _)]
  have p6 : 0 < mg FloatKind.f64.format.binade FloatKind.f64.format.infRung := by decide +kernel
  have p3 : 0 < mg FloatKind.f32.format.binade FloatKind.f32.format.infRung := by decide +kernel
  congr 1
  rcases Nat.lt_or_eq_of_le hx with hx | hx
  · rcases Nat.lt_or_eq_of_le hy with hy | hy
    · rw [up_sv hx, up_sv hy, cmp_mul _ _ _ (Nat.two_pow_pos _)]
    · have h1 := big x hx
      have h2 := sv_fin_abs hx
      rw [iv y hy, sv_inf hy]
      generalize mg FloatKind.f64.format.binade FloatKind.f64.format.infRung = M at *
      generalize mg FloatKind.f32.format.binade FloatKind.f32.format.infRung = N at *
      cases sg .f32 y
      · simp only [Bool.false_eq_true, if_false]; rw [cmp_int, cmp_int, if_pos h1.2, if_pos h2.2]
      · simp only [if_true]; rw [cmp_int, cmp_int, if_neg (by omega), if_neg (by omega), if_neg (by omega), if_neg (by omega)]
  · rcases Nat.lt_or_eq_of_le hy with hy | hy
    · have h1 := big y hy
      have h2 := sv_fin_abs hy
      rw [iv x hx, sv_inf hx]
      generalize mg FloatKind.f64.format.binade FloatKind.f64.format.infRung = M at *
      generalize mg FloatKind.f32.format.binade FloatKind.f32.format.infRung = N at *
      cases sg .f32 x
      · simp only [Bool.false_eq_true, if_false]; rw [cmp_int, cmp_int, if_neg (by omega), if_neg (by omega), if_neg (by omega), if_neg (by omega)]
      · simp only [if_true]; rw [cmp_int, cmp_int, if_pos h1.1, if_pos h2.1]
    · rw [iv x hx, iv y hy, sv_inf hx, sv_inf hy]
      generalize mg FloatKind.f64.format.binade FloatKind.f64.format.infRung = M at *
      generalize mg FloatKind.f32.format.binade FloatKind.f32.format.infRung = N at *
      cases sg .f32 x <;> cases sg .f32 y <;> simp only [Bool.false_eq_true, if_false, if_true] <;> rw [cmp_int, cmp_int]
      · simp
      · rw [if_neg (by omega), if_neg (by omega), if_neg (by omega), if_neg (by omega)]
      · rw [if_pos (by omega), if_pos (by omega)]
      · simp

theorem up_not_inf {b : Nat} (h : nan .f32 b = false) : ∀ s m e, FloatKind.f32.decode b = .number s m e → (FloatKind.f64.decode (FloatKind.f64.encode (.number s m e))).isInfinity = false := by
  intro s m e hd
  rw [not_nan_iff] at h
  rcases Nat.lt_or_eq_of_le h with h | h
  · obtain ⟨r, er, hr, _⟩ := upw_fin b h
    have hr' : rg .f64 (upw b) < FloatKind.f64.format.infRung := by rw [er, (word_sg .f64 _ _ (Nat.le_of_lt hr)).2]; exact hr
    obtain ⟨m', e', hd', _⟩ := read_num .f64 (upw b) hr'
    rw [← hd]
    show (FloatKind.f64.format.read (upw b)).isInfinity = false
    rw [hd']; rfl
  · have := read_inf .f32 b h
    rw [show FloatKind.f32.decode b = _ from this] at hd
    cases hd

/-- 'float64(x)' of a float32. -/
theorem run_up {P : Program} (src dst : TypeId) (us : P.underlying src = some (.float .f32)) (ud : P.underlying dst = some (.float .f64)) {v : Option Nat} {b : Nat} (h : Rep .f32 v b)
    (w : World) : ∃ r n, (convert src dst (.float .f32 b)).run P w = .ok (.float .f64 r) (w.drewN n) ∧ Rep .f64 (up v) r := by
  cases v with
  | none => exact ⟨_, 1, run_up_nan src dst us ud h.none w, ⟨qnan_lt _ _, qnan_nan _ _⟩⟩
  | some c =>
    have hb := h.some
    subst hb
    exact ⟨_, 0, run_up_num src dst us ud h.2.2 (up_not_inf h.2.2) w, rep_up h (by simp)⟩

theorem run_upw {P : Program} (src dst : TypeId) (us : P.underlying src = some (.float .f32)) (ud : P.underlying dst = some (.float .f64)) {b : Nat} (h : nan .f32 b = false)
    (w : World) : (convert src dst (.float .f32 b)).run P w = .ok (.float .f64 (upw b)) w := run_up_num src dst us ud h (up_not_inf h) w

section
variable {P : Program} {w : World} {ops : Array Oper} {rest : List Oper} {o : Oper} {a : Act} {Q : Exit → Act → World → Prop}
theorem wpList_up (hg : o.guard = none) (x : Operand) (src dst : TypeId) (ho : o.op = .convert src dst x) (us : P.underlying src = some (.float .f32)) (ud : P.underlying dst = some (.float .f64))
    (b : Nat) (ex : a.eval x = .float .f32 b) {v : Option Nat} (hx : Rep .f32 v b)
    (h : ∀ r n, Rep .f64 (up v) r → wpList P ops Q rest (a.put o.dst (.float .f64 r)) (w.drewN n)) : wpList P ops Q (o :: rest) a w := by
  refine wpList_plain hg fun K hK => ?_
  obtain ⟨r, n, hrun, hr⟩ := run_up (P := P) src dst us ud hx w
  unfold Oper.wp
  simp [execOp, ho, ex, hrun, Result.andThen]
  exact hK _ _ (h r n hr)
end

/-! ### Magnitude without its sign -/

def absw (b : Nat) : Nat := b % 9223372036854775808

theorem absw_rg (b : Nat) : rg .f64 (absw b) = rg .f64 b := by
  show b % 9223372036854775808 % 9223372036854775808 = b % 9223372036854775808
  rw [Nat.mod_mod]
theorem absw_sg (b : Nat) : sg .f64 (absw b) = false := by
  show ((b % 9223372036854775808) / 9223372036854775808 % 2 == 1) = false
  rw [Nat.div_eq_of_lt (Nat.mod_lt _ (by decide))]; rfl
theorem absw_nan (b : Nat) : nan .f64 (absw b) = nan .f64 b := by
  rw [nan_iff, nan_iff]
  have := absw_rg b
  unfold rg at this
  rw [this]
theorem absw_lt (b : Nat) : absw b < 2 ^ FloatKind.f64.format.width := by
  show b % 9223372036854775808 < 18446744073709551616
  omega
theorem absw_sv (b : Nat) : sv .f64 (absw b) = (mg FloatKind.f64.format.binade (rg .f64 b) : Int) := by
  unfold sv; rw [absw_sg, absw_rg]; rfl

/-- The order of two words without a sign is the order of their rungs. -/
theorem order_pos (k : FloatKind) (x y : Nat) (hx : nan k x = false) (hy : nan k y = false) (sx : sg k x = false) (sy : sg k y = false) : k.format.order x y = some (compare (rg k x) (rg k y)) := by
  rw [order_sv k x y hx hy]
  unfold sv
  rw [sx, sy]
  simp only [Bool.false_eq_true, if_false]
  congr 1
  rw [cmp_int]
  show _ = compareOfLessAndEq (rg k x) (rg k y)
  unfold compareOfLessAndEq
  rcases Nat.lt_trichotomy (rg k x) (rg k y) with h | h | h
  · have := mg_lt (binade_pos k) h
    rw [if_pos (by omega), if_pos h]
  · rw [h]; simp
  · have := mg_lt (binade_pos k) h
    rw [if_neg (by omega), if_neg (by omega), if_neg (by omega), if_neg (by omega)]

end Flo
end Go.Proofs.Ytpebdcimbdbbmaa
