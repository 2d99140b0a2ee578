/-
  The angle as a chain of operations; its bound. Conditions: those that each theorem names.
-/
import Derived.Test.YtpebdcimbdbbmaaSin
namespace Go.Proofs.Ytpebdcimbdbbmaa
namespace Flo
open Go

/-- What is told is a finite number that is not negative, at most 2^a least places. -/
structure Nn (k : FloatKind) (v : Option Nat) (a : Nat) : Prop where
  ex : ∃ b, v = some b ∧ sg k b = false ∧ rg k b < k.format.infRung ∧ mg k.format.binade (rg k b) ≤ 2 ^ a
theorem Nn.bd {k : FloatKind} {v : Option Nat} {a : Nat} (h : Nn k v a) : Bd k v a := by
  obtain ⟨b, e, _, h1, h2⟩ := h
  exact ⟨b, e, h1, h2⟩
theorem nn_of {k : FloatKind} {v : Option Nat} {m : Nat} {p : Int} {a : Nat} (h : Bd k v a) (e : v = some (k.format.nearest false m p)) : Nn k v a := by
  obtain ⟨b, e1, h1, h2⟩ := h
  refine ⟨b, e1, ?_, h1, h2⟩
  rw [e] at e1
  injection e1 with e1
  rw [← e1]
  unfold Ieee.Format.nearest
  dsimp only
  split
  · exact (word_sg k false 0 (Nat.zero_le _)).1
  · exact (word_sg k false _ (Nat.min_le_right _ _)).1

theorem nn_mul {k : FloatKind} {v u : Option Nat} {a c e : Nat} (hv : Nn k v a) (hu : Nn k u c) (he : e < topE k) (hac : a + c ≤ e + oneE k) : Nn k (ar .mul k v u) e := by
  have h := bd_mul hv.bd hu.bd he hac
  obtain ⟨b, rfl, s1, r1, _⟩ := hv
  obtain ⟨d, rfl, s2, r2, _⟩ := hu
  obtain ⟨m, i, hr, _, _⟩ := read_num k b r1
  obtain ⟨n, j, hr2, _, _⟩ := read_num k d r2
  refine nn_of (m := m * n) (p := i + j) h ?_
  show k.format.mul b d = _
  unfold Ieee.Format.mul
  rw [hr, hr2, s1, s2]
  rfl

theorem nn_quo {k : FloatKind} {v u : Option Nat} {a c e topE0 : Nat} (hv : Nn k v a) (hu : Nn k u topE0) (hl : Lo k u c) (he : e < topE k) (hac : a + oneE k ≤ e + c) : Nn k (ar .quo k v u) e := by
  have h := bd_quo hv.bd hl he hac
  obtain ⟨b, rfl, s1, r1, _⟩ := hv
  obtain ⟨d, rfl, s2, r2, _⟩ := hu
  obtain ⟨d', e', _, l2⟩ := hl
  injection e' with e'
  subst e'
  obtain ⟨m, i, hr, _, _⟩ := read_num k b r1
  obtain ⟨n, j, hr2, _, hn⟩ := read_num k d r2
  have hn0 : n ≠ 0 := fun h => by
    subst h
    rw [← hn, Nat.zero_mul] at l2
    have := Nat.two_pow_pos c
    omega
  by_cases hm0 : m = 0
  · have h1 : ar .quo k (some b) (some d) = some (k.format.nearest false m 0) := by
      show k.format.div b d = _
      unfold Ieee.Format.div
      rw [hr, hr2, s1, s2]
      unfold Ieee.Datum.quotient
      simp only [if_neg hn0]
      subst hm0
      simp [Ieee.Format.write, Ieee.Format.nearest]
    exact nn_of h h1
  · have h1 : ∃ M P, ar .quo k (some b) (some d) = some (k.format.nearest false M P) := by
      show ∃ M P, k.format.div b d = _
      unfold Ieee.Format.div
      rw [hr, hr2, s1, s2]
      unfold Ieee.Datum.quotient
      simp only [if_neg hn0]
      exact ⟨_, _, rfl⟩
    obtain ⟨M, P, h1⟩ := h1
    exact nn_of h h1

theorem nn_root {v : Option Nat} {a e : Nat} (h : Nn .f64 v a) (he : e < 2098) (hae : a + 1074 ≤ 2 * e) : Nn .f64 (rt v) e := by
  have hB := bd_root h.bd he hae
  obtain ⟨b, rfl, s1, r1, _⟩ := h
  obtain ⟨m, i, hr, _, _⟩ := read_num .f64 b r1
  have h1 : ∃ M P, rt (some b) = some (FloatKind.f64.format.nearest false M P) := by
    show ∃ M P, FloatKind.f64.format.sqrt b = some (FloatKind.f64.format.nearest false M P)
    unfold Ieee.Format.sqrt
    rw [hr, s1]
    unfold Ieee.Datum.root
    by_cases hm : m = 0
    · simp only [if_pos hm]
      exact ⟨_, _, rfl⟩
    · simp only [if_neg hm]
      exact ⟨_, _, rfl⟩
  obtain ⟨M, P, h1⟩ := h1
  rcases hB with hB | hB
  · rw [h1] at hB; cases hB
  · exact nn_of hB h1

/-- A positive number and one that is not negative. -/
theorem ps_add_nn {k : FloatKind} {v u : Option Nat} {c a : Nat} (hv : Ps k v c a) (hu : Nn k u a) (ha : a + 1 < topE k) : Ps k (ar .add k v u) c (a + 1) := by
  obtain ⟨b, rfl, s1, r1, l1, u1⟩ := hv
  obtain ⟨d, rfl, s2, r2, u2⟩ := hu
  obtain ⟨m, i, hr, hi, e1⟩ := read_num k b r1
  obtain ⟨n, j, hr2, hj, e2⟩ := read_num k d r2
  show Ps k (k.format.add b d) c (a + 1)
  unfold Ieee.Format.add
  rw [hr, hr2]
  have f1 := sv_read (b := b) hi e1 (base := min i j) (by omega) (by omega)
  have f2 := sv_read (b := d) hj e2 (base := min i j) (by omega) (by omega)
  have g1 : sv k b = (mg k.format.binade (rg k b) : Int) := by unfold sv; rw [s1]; rfl
  have g2 : sv k d = (mg k.format.binade (rg k d) : Int) := by unfold sv; rw [s2]; rfl
  have p2 : 0 < 2 ^ c := Nat.two_pow_pos _
  have key : (Ieee.signed (sg k b) m (i - min i j).toNat + Ieee.signed (sg k d) n (j - min i j).toNat) * ((2 ^ (min i j - k.format.leastPlace).toNat : Nat) : Int) = ((mg k.format.binade (rg k b) + mg k.format.binade (rg k d) : Nat) : Int) := by
    rw [Int.add_mul, f1, f2, g1, g2]; rfl
  have hpos : 0 < Ieee.signed (sg k b) m (i - min i j).toNat + Ieee.signed (sg k d) n (j - min i j).toNat := by
    rcases Int.lt_or_le 0 (Ieee.signed (sg k b) m (i - min i j).toNat + Ieee.signed (sg k d) n (j - min i j).toNat) with h | h
    · exact h
    · exfalso
      have hX : (0 : Int) ≤ ((2 ^ (min i j - k.format.leastPlace).toNat : Nat) : Int) := Int.natCast_nonneg _
      have := Int.mul_nonneg (show 0 ≤ -(Ieee.signed (sg k b) m (i - min i j).toNat + Ieee.signed (sg k d) n (j - min i j).toNat) by omega) hX
      rw [Int.neg_mul, key] at this
      omega
  generalize hT : Ieee.signed (sg k b) m (i - min i j).toNat + Ieee.signed (sg k d) n (j - min i j).toNat = T at key hpos
  have hs : (if T = 0 then (sg k b && sg k d) else decide (T < 0)) = false := by
    rw [if_neg (by omega)]; exact decide_eq_false (by omega)
  have hval : T.natAbs * 2 ^ (min i j - k.format.leastPlace).toNat = mg k.format.binade (rg k b) + mg k.format.binade (rg k d) := by
    have := congrArg Int.natAbs key
    rw [Int.natAbs_mul, Int.natAbs_natCast, Int.natAbs_natCast] at this
    exact this
  have e0 : (k.format.leastPlace - min i j).toNat = 0 := by omega
  show Ps k (some (k.format.nearest (if Ieee.signed (sg k b) m (i - min i j).toNat + Ieee.signed (sg k d) n (j - min i j).toNat = 0 then (sg k b && sg k d) else decide (Ieee.signed (sg k b) m (i - min i j).toNat + Ieee.signed (sg k d) n (j - min i j).toNat < 0)) (Ieee.signed (sg k b) m (i - min i j).toNat + Ieee.signed (sg k d) n (j - min i j).toNat).natAbs (min i j))) c (a + 1)
  rw [hT, hs]
  refine ps_nearest ha ?_ ?_
  · rw [hval, e0, Nat.add_zero, Nat.pow_succ]; omega
  · rw [hval, e0, Nat.add_zero]; omega
theorem Ps.nn {k : FloatKind} {v : Option Nat} {c a : Nat} (h : Ps k v c a) : Nn k v a := by
  obtain ⟨b, e, s, r, _, u⟩ := h
  exact ⟨b, e, s, r, u⟩
theorem Nn.mono {k : FloatKind} {v : Option Nat} {a a' : Nat} (h : Nn k v a) (ha : a ≤ a') : Nn k v a' := by
  obtain ⟨b, e, s, r, u⟩ := h
  exact ⟨b, e, s, r, Nat.le_trans u (Nat.pow_le_pow_right (by decide) ha)⟩

/-- The lesser by the greater: at most 2. -/
theorem quo_two {a b : Nat} (sa : sg .f64 a = false) (sb : sg .f64 b = false) (ra : rg .f64 a < FloatKind.f64.format.infRung) (rb : rg .f64 b < FloatKind.f64.format.infRung) (h : mg FloatKind.f64.format.binade (rg .f64 a) ≤ mg FloatKind.f64.format.binade (rg .f64 b))
    (h0 : 0 < mg FloatKind.f64.format.binade (rg .f64 b)) : Nn .f64 (ar .quo .f64 (some a) (some b)) 1075 := by
  generalize hx : mg FloatKind.f64.format.binade (rg .f64 a) = x at h
  generalize hy : mg FloatKind.f64.format.binade (rg .f64 b) = y at h h0
  have h1 : x < 2 ^ (x.log2 + 1) := Nat.lt_log2_self
  have h2 : 2 ^ y.log2 ≤ y := Nat.log2_self_le (by omega)
  have h3 : y < 2 ^ (y.log2 + 1) := Nat.lt_log2_self
  have hl : x.log2 ≤ y.log2 := by
    by_cases hx0 : x = 0
    · subst hx0; simp
    · have h4 := Nat.log2_self_le hx0
      have := (Nat.pow_lt_pow_iff_right (show 1 < 2 by decide)).1 (Nat.lt_of_le_of_lt (Nat.le_trans h4 h) h3)
      omega
  refine nn_quo (a := x.log2 + 1) (c := y.log2) (topE0 := y.log2 + 1) ⟨a, rfl, sa, ra, by rw [hx]; exact Nat.le_of_lt h1⟩ ⟨b, rfl, sb, rb, by rw [hy]; exact Nat.le_of_lt h3⟩ ⟨b, rfl, rb, by rw [hy]; exact h2⟩ (show 1075 < 2098 by decide) ?_
  show x.log2 + 1 + 1074 ≤ 1075 + y.log2
  omega

/-! ### The chain -/

abbrev eight6 : Nat := 4620693217682128896

def stp (t : Option Nat) : Option Nat := ar .quo .f64 t (ar .add .f64 (some one6) (rt (ar .add .f64 (some one6) (ar .mul .f64 t t))))
def tA (t : Option Nat) : Nat → Option Nat
  | 0 => t
  | i + 1 => stp (tA t i)
/-- The series' first s steps. -/
def pA (u : Option Nat) : Nat → Option Nat
  | 0 => some 0
  | s + 1 => ar .sub .f64 (ar .quo .f64 (some one6) (some (fe (15 - 2 * s)))) (ar .mul .f64 u (pA u s))
/-- The angle in turns of a first octant's tangent. -/
def aA (t : Option Nat) : Option Nat := ar .quo .f64 (ar .mul .f64 (some eight6) (ar .mul .f64 t (pA (ar .mul .f64 t t) 8))) (some turn6)
def oA (o : Bool) (v : Option Nat) : Option Nat := if o then ar .sub .f64 (some quart6) v else v
def xA (o : Bool) (v : Option Nat) : Option Nat := if o then ar .sub .f64 (some half6) v else v
def yA (o : Bool) (v : Option Nat) : Option Nat := if o then v.map (Op.negFloat .f64) else v
def qA (o : Bool) (a b : Nat) : Option Nat := if o then ar .quo .f64 (some b) (some a) else ar .quo .f64 (some a) (some b)
/-- The angle. -/
def angV (a b : Nat) (o xn yn : Bool) : Option Nat := yA yn (xA xn (oA o (aA (tA (qA o a b) 3))))

theorem stp_nn {t : Option Nat} (h : Nn .f64 t 1075) : Nn .f64 (stp t) 1075 := by
  have h1 : Nn .f64 (ar .mul .f64 t t) 1076 := nn_mul h h (show 1076 < 2098 by decide) (show 1075 + 1075 ≤ 1076 + 1074 by decide)
  have h2 : Ps .f64 (ar .add .f64 (some one6) (ar .mul .f64 t t)) 1074 1077 := ps_add_nn (one_ps.mono (Nat.le_refl _) (by decide)) h1 (show 1076 + 1 < 2098 by decide)
  have h3 : Nn .f64 (rt (ar .add .f64 (some one6) (ar .mul .f64 t t))) 1076 := nn_root h2.nn (by decide) (by decide)
  have h4 : Ps .f64 (ar .add .f64 (some one6) (rt (ar .add .f64 (some one6) (ar .mul .f64 t t)))) 1074 1077 := ps_add_nn (one_ps.mono (Nat.le_refl _) (by decide)) h3 (show 1076 + 1 < 2098 by decide)
  exact nn_quo h h4.nn h4.lo (show 1075 < 2098 by decide) (show 1075 + 1074 ≤ 1075 + 1074 by decide)
theorem tA_nn {t : Option Nat} (h : Nn .f64 t 1075) : ∀ i, Nn .f64 (tA t i) 1075 := by
  intro i
  induction i with
  | zero => exact h
  | succ i ih => exact stp_nn ih
theorem odd_ps : ∀ t : Nat, t < 8 → Ps .f64 (some (fe (15 - 2 * t))) 1074 1078 := by
  have h : ∀ t : Nat, t < 8 → sg .f64 (fe (15 - 2 * (t : Int))) = false ∧ rg .f64 (fe (15 - 2 * (t : Int))) < FloatKind.f64.format.infRung ∧ 2 ^ 1074 ≤ mg FloatKind.f64.format.binade (rg .f64 (fe (15 - 2 * (t : Int)))) ∧ mg FloatKind.f64.format.binade (rg .f64 (fe (15 - 2 * (t : Int)))) ≤ 2 ^ 1078 := by decide +kernel
  intro t ht
  exact ⟨_, rfl, (h t ht).1, (h t ht).2.1, (h t ht).2.2.1, (h t ht).2.2.2⟩
theorem pA_bd {u : Option Nat} (hu : Bd .f64 u 1076) : ∀ s, s ≤ 8 → Bd .f64 (pA u s) (1074 + 3 * s) := by
  intro s
  induction s with
  | zero => exact fun _ => zero_bd _
  | succ s ih =>
    intro hs
    have h1 := ih (by omega)
    have h2 : Bd .f64 (ar .mul .f64 u (pA u s)) (1076 + 3 * s) := bd_mul hu h1 (show 1076 + 3 * s < 2098 by omega) (show 1076 + (1074 + 3 * s) ≤ 1076 + 3 * s + 1074 by omega)
    have h3 : Bd .f64 (ar .quo .f64 (some one6) (some (fe (15 - 2 * s)))) 1074 := bd_quo one_ps.bd (odd_ps s (by omega)).lo (show 1074 < 2098 by decide) (show 1074 + 1074 ≤ 1074 + 1074 by decide)
    exact (bd_sub (h3.mono (by omega)) h2 (show 1076 + 3 * s + 1 < 2098 by omega)).mono (by omega)
theorem eight_bd : Bd .f64 (some eight6) 1077 := ⟨_, rfl, by decide +kernel, by decide +kernel⟩
theorem quart_bd : Bd .f64 (some quart6) 1072 := ⟨_, rfl, by decide +kernel, by decide +kernel⟩
theorem turn_lo : Lo .f64 (some turn6) 1076 := ⟨_, rfl, by decide +kernel, by decide +kernel⟩
theorem aA_bd {t : Option Nat} (h : Nn .f64 t 1075) : Bd .f64 (aA t) 1101 := by
  have h1 : Bd .f64 (ar .mul .f64 t t) 1076 := (nn_mul h h (show 1076 < 2098 by decide) (show 1075 + 1075 ≤ 1076 + 1074 by decide)).bd
  have h2 := pA_bd h1 8 (Nat.le_refl _)
  have h3 : Bd .f64 (ar .mul .f64 t (pA (ar .mul .f64 t t) 8)) 1100 := bd_mul h.bd h2 (show 1100 < 2098 by decide) (show 1075 + (1074 + 3 * 8) ≤ 1100 + 1074 by decide)
  have h4 : Bd .f64 (ar .mul .f64 (some eight6) (ar .mul .f64 t (pA (ar .mul .f64 t t) 8))) 1103 := bd_mul eight_bd h3 (show 1103 < 2098 by decide) (show 1077 + 1100 ≤ 1103 + 1074 by decide)
  exact bd_quo h4 turn_lo (show 1101 < 2098 by decide) (show 1103 + 1074 ≤ 1101 + 1076 by decide)
theorem oA_bd {o : Bool} {v : Option Nat} (h : Bd .f64 v 1101) : Bd .f64 (oA o v) 1102 := by
  cases o
  · exact h.mono (by decide)
  · exact bd_sub (quart_bd.mono (by decide)) h (show 1101 + 1 < 2098 by decide)
theorem xA_bd {o : Bool} {v : Option Nat} (h : Bd .f64 v 1102) : Bd .f64 (xA o v) 1103 := by
  cases o
  · exact h.mono (by decide)
  · exact bd_sub (half_bd.mono (by decide)) h (show 1102 + 1 < 2098 by decide)
theorem yA_bd {o : Bool} {v : Option Nat} (h : Bd .f64 v 1103) : Bd .f64 (yA o v) 1103 := by
  cases o
  · exact h
  · exact neg_bd h
theorem angV_bd {a b : Nat} {o : Bool} (xn yn : Bool) (h : Nn .f64 (qA o a b) 1075) : Bd .f64 (angV a b o xn yn) 1103 := yA_bd (xA_bd (oA_bd (aA_bd (tA_nn h 3))))

theorem fe_odd : ∀ s : Nat, s < 9 → cm .geq .f64 (some (fe (15 - 2 * s))) (some one6) = decide (s < 8) := by decide +kernel
theorem fe_odd2 : ∀ s : Nat, s < 8 → ar .sub .f64 (some (fe (15 - 2 * s))) (some two6) = some (fe (15 - 2 * (s + 1 : Nat))) := by decide +kernel
end Flo
end Go.Proofs.Ytpebdcimbdbbmaa
