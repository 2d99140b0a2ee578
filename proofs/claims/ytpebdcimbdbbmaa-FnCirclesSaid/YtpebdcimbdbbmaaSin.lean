/-
  The sine as a chain of operations; its bound. Conditions: those that each theorem names.
-/
import Derived.Test.YtpebdcimbdbbmaaFloor
namespace Go.Proofs.Ytpebdcimbdbbmaa
namespace Flo
open Go

theorem cut_zero_div {neg : Bool} {n d : Nat} : Ieee.Toward.zero.cut neg n d = n / 2 ^ d := by
  unfold Ieee.Toward.cut
  simp only [Nat.shiftLeft_eq, Nat.one_mul]
  have hlt : n < 2 ^ (n.log2 + 1) := Nat.lt_log2_self
  show n / 2 ^ min d (n.log2 + 2) + 0 = _
  rw [Nat.add_zero]
  by_cases hd : d ≤ n.log2 + 2
  · rw [Nat.min_eq_left hd]
  · rw [Nat.min_eq_right (by omega)]
    have h2 : 2 ^ (n.log2 + 2) = 2 * 2 ^ (n.log2 + 1) := by rw [Nat.pow_succ, Nat.mul_comm]
    have h3 : 2 ^ (n.log2 + 2) ≤ 2 ^ d := Nat.pow_le_pow_right (by decide) (by omega)
    rw [Nat.div_eq_of_lt (by omega), Nat.div_eq_of_lt (by omega)]

/-- The whole number before the point. -/
def trI (x : Nat) : Int := (floatToIntVal .f64 x .i64).getD 0

theorem fe_sv {n : Int} (h : n.natAbs < 9007199254740992) : rg .f64 (fe n) < FloatKind.f64.format.infRung ∧ sv .f64 (fe n) = n * ((2 ^ 1074 : Nat) : Int) := by
  obtain ⟨E, hE⟩ : ∃ E : Nat, E = 1074 := ⟨_, rfl⟩
  have hbig : n.natAbs * 2 ^ ((0 : Int) - FloatKind.f64.format.leastPlace).toNat < mg FloatKind.f64.format.binade FloatKind.f64.format.infRung := by
    rw [mg_top, lp64, show ((0 : Int) - -1074).toNat = E by omega]
    have h1 : n.natAbs * 2 ^ E < 2 ^ 53 * 2 ^ E := Nat.mul_lt_mul_of_pos_right (by rw [show (2 : Nat) ^ 53 = 9007199254740992 by decide]; exact h) (Nat.two_pow_pos _)
    rw [← Nat.pow_add] at h1
    exact Nat.lt_of_lt_of_le h1 (Nat.pow_le_pow_right (by decide) (show 53 + E ≤ 2098 by omega))
  obtain ⟨r, e, hr, hm⟩ := nearest_exact .f64 (decide (n < 0)) n.natAbs 0 (show n.natAbs < 2 * 4503599627370496 by omega) (by rw [lp64]; decide) hbig
  have hfe : fe n = FloatKind.f64.format.word (decide (n < 0)) r := e
  rw [hfe]
  refine ⟨by rw [(word_sg .f64 _ r (Nat.le_of_lt hr)).2]; exact hr, ?_⟩
  rw [word_sv .f64 _ r (Nat.le_of_lt hr), hm, lp64, show ((0 : Int) - -1074).toNat = E by omega, ← hE]
  by_cases hn : n < 0
  · rw [decide_eq_true hn, if_pos rfl, Int.natCast_mul, show ((n.natAbs : Nat) : Int) = -n by omega, Int.neg_mul, Int.neg_neg]
  · rw [decide_eq_false hn, if_neg (by decide), Int.natCast_mul, show ((n.natAbs : Nat) : Int) = n by omega]

theorem frac_nat {m d E : Nat} : (m / 2 ^ d) * (2 ^ d * 2 ^ E) ≤ m * 2 ^ E ∧ m * 2 ^ E ≤ (m / 2 ^ d) * (2 ^ d * 2 ^ E) + 2 ^ d * 2 ^ E := by
  have e := Nat.div_add_mod m (2 ^ d)
  have hlt := Nat.mod_lt m (Nat.two_pow_pos d)
  have h1 : m / 2 ^ d * 2 ^ d ≤ m := Nat.div_mul_le_self m (2 ^ d)
  have h2 : m ≤ m / 2 ^ d * 2 ^ d + 2 ^ d := by rw [Nat.mul_comm]; omega
  rw [← Nat.mul_assoc, ← Nat.add_mul]
  exact ⟨Nat.mul_le_mul_right _ h1, Nat.mul_le_mul_right _ h2⟩

theorem frac_bd {x : Nat} (h : Bd .f64 (some x) (52 + 1074)) : floatToIntVal .f64 x .i64 = some (trI x) ∧ Bd .f64 (ar .sub .f64 (some x) (some (fe (trI x)))) 1074 := by
  obtain ⟨E, hE⟩ : ∃ E : Nat, E = 1074 := ⟨_, rfl⟩
  obtain ⟨n0, hn0⟩ := f2i_bd h (by decide)
  have htr : trI x = n0 := by unfold trI; rw [hn0]; rfl
  refine ⟨by rw [hn0, htr], ?_⟩
  rw [htr]
  have hx : rg .f64 x < FloatKind.f64.format.infRung := by
    obtain ⟨c, e, h1, _⟩ := h
    injection e with e
    rw [e]; exact h1
  obtain ⟨c, m, p, e, hr, hp, hm, h1⟩ := h.read
  injection e with e
  subst e
  have hd : FloatKind.f64.decode x = .number (sg .f64 x) m p := hr
  have hi : (Ieee.Datum.number (sg .f64 x) m p).toInt .zero = some (Ieee.signed (sg .f64 x) (Ieee.Toward.zero.cut (sg .f64 x) (m <<< p.toNat) (-p).toNat) 0) := rfl
  unfold floatToIntVal at hn0
  rw [hd, hi] at hn0
  have hz : Ieee.signed (sg .f64 x) (Ieee.Toward.zero.cut (sg .f64 x) (m <<< p.toNat) (-p).toNat) 0 = n0 := by
    simp only at hn0
    split at hn0
    · injection hn0
    · cases hn0
  have hsv := sv_num hm
  rw [lp64] at hp h1 hsv hm
  have hM : Ieee.Toward.zero.cut (sg .f64 x) (m <<< p.toNat) (-p).toNat ≤ 2 ^ 52 := cut_trunc (by rw [Nat.shiftLeft_eq]; exact whole_le hp h1)
  -- the two magnitudes
  have key : Ieee.Toward.zero.cut (sg .f64 x) (m <<< p.toNat) (-p).toNat * 2 ^ E ≤ m * 2 ^ (p - -1074).toNat ∧ m * 2 ^ (p - -1074).toNat ≤ Ieee.Toward.zero.cut (sg .f64 x) (m <<< p.toNat) (-p).toNat * 2 ^ E + 2 ^ E := by
    rw [cut_zero_div, Nat.shiftLeft_eq]
    rcases Int.lt_or_le p 0 with h2 | h2
    · rw [show p.toNat = 0 by omega, Nat.pow_zero, Nat.mul_one, show (p - -1074).toNat = E - (-p).toNat by omega, show 2 ^ E = 2 ^ (-p).toNat * 2 ^ (E - (-p).toNat) by rw [← Nat.pow_add]; congr 1; omega]
      exact frac_nat
    · rw [show (-p).toNat = 0 by omega, Nat.pow_zero, Nat.div_one, show (p - -1074).toNat = p.toNat + E by omega, Nat.pow_add, ← Nat.mul_assoc]
      exact ⟨Nat.le_refl _, Nat.le_add_right _ _⟩
  generalize Ieee.Toward.zero.cut (sg .f64 x) (m <<< p.toNat) (-p).toNat = M at hz hM key
  have hna : n0.natAbs = M := by rw [← hz, signed_abs, Nat.pow_zero, Nat.mul_one]
  have h52 : (2 : Nat) ^ 52 = 4503599627370496 := by decide
  obtain ⟨f1, f2⟩ := fe_sv (n := n0) (by rw [hna]; omega)
  refine bd_sub_sv hx f1 (show 1074 < 2098 by decide) ?_
  rw [f2, hsv, ← hz, ← hE, signed_eq, signed_eq, Nat.pow_zero, Nat.mul_one]
  rw [show (p - -1074).toNat = (p - -1074).toNat from rfl] at key
  generalize m * 2 ^ (p - -1074).toNat = A at key ⊢
  have hmulc : ((M : Nat) : Int) * ((2 ^ E : Nat) : Int) = ((M * 2 ^ E : Nat) : Int) := (Int.natCast_mul _ _).symm
  cases sg .f64 x
  · simp only [Bool.false_eq_true, if_false]
    rw [hmulc]
    omega
  · simp only [if_true]
    rw [Int.neg_mul, hmulc]
    omega

/-! ### The chain -/

abbrev half6 : Nat := 4602678819172646912
abbrev quart6 : Nat := 4598175219545276416
abbrev turn6 : Nat := 4618760256179416344

/-- What is left of turns without whole ones. -/
def frV (x : Nat) : Option Nat :=
  if cm .lss .f64 (ar .sub .f64 (some x) (some (fe (trI x)))) (some 0) then ar .add .f64 (ar .sub .f64 (some x) (some (fe (trI x)))) (some one6) else ar .sub .f64 (some x) (some (fe (trI x)))
/-- Folded once. -/
def f1V (f : Option Nat) : Option Nat := if cm .geq .f64 f (some half6) then ar .sub .f64 f (some half6) else f
/-- Folded twice. -/
def f2V (g : Option Nat) : Option Nat := if cm .gtr .f64 g (some quart6) then ar .sub .f64 (some half6) g else g
def zV (f : Option Nat) : Option Nat := ar .mul .f64 (f2V (f1V f)) (some turn6)
/-- The series' first t steps. -/
def pv (u : Option Nat) : Nat → Option Nat
  | 0 => some one6
  | t + 1 => ar .sub .f64 (some one6) (ar .quo .f64 (ar .mul .f64 u (pv u t)) (some (fe (2 * (8 - t) * (2 * (8 - t) + 1)))))
def snV (f : Option Nat) : Option Nat := ar .mul .f64 (zV f) (pv (ar .mul .f64 (zV f) (zV f)) 8)
/-- The sine. -/
def sinV (x : Nat) : Option Nat := if cm .geq .f64 (frV x) (some half6) then (snV (frV x)).map (Op.negFloat .f64) else snV (frV x)

theorem half_bd : Bd .f64 (some half6) 1073 := ⟨_, rfl, by decide +kernel, by decide +kernel⟩
theorem turn_bd : Bd .f64 (some turn6) 1077 := ⟨_, rfl, by decide +kernel, by decide +kernel⟩

theorem frV_bd {x : Nat} (h : Bd .f64 (some x) (52 + 1074)) : Bd .f64 (frV x) 1075 := by
  obtain ⟨_, h1⟩ := frac_bd h
  unfold frV
  split
  · exact bd_add h1 one_ps.bd (show 1074 + 1 < 2098 by decide)
  · exact h1.mono (by decide)
theorem f1V_bd {f : Option Nat} (h : Bd .f64 f 1075) : Bd .f64 (f1V f) 1076 := by
  unfold f1V
  split
  · exact bd_sub h (half_bd.mono (by decide)) (show 1075 + 1 < 2098 by decide)
  · exact h.mono (by decide)
theorem f2V_bd {f : Option Nat} (h : Bd .f64 f 1076) : Bd .f64 (f2V f) 1077 := by
  unfold f2V
  split
  · exact bd_sub (half_bd.mono (by decide)) h (show 1076 + 1 < 2098 by decide)
  · exact h.mono (by decide)
theorem den_ps : ∀ t : Nat, t < 8 → Ps .f64 (some (fe (2 * (8 - t) * (2 * (8 - t) + 1)))) 1076 1083 := by
  have h : ∀ t : Nat, t < 8 → sg .f64 (fe (2 * (8 - (t : Int)) * (2 * (8 - (t : Int)) + 1))) = false ∧ rg .f64 (fe (2 * (8 - (t : Int)) * (2 * (8 - (t : Int)) + 1))) < FloatKind.f64.format.infRung ∧ 2 ^ 1076 ≤ mg FloatKind.f64.format.binade (rg .f64 (fe (2 * (8 - (t : Int)) * (2 * (8 - (t : Int)) + 1)))) ∧ mg FloatKind.f64.format.binade (rg .f64 (fe (2 * (8 - (t : Int)) * (2 * (8 - (t : Int)) + 1)))) ≤ 2 ^ 1083 := by decide +kernel
  intro t ht
  exact ⟨_, rfl, (h t ht).1, (h t ht).2.1, (h t ht).2.2.1, (h t ht).2.2.2⟩
theorem pv_bd {u : Option Nat} (hu : Bd .f64 u 1086) : ∀ t, t ≤ 8 → Bd .f64 (pv u t) (1074 + 11 * t) := by
  intro t
  induction t with
  | zero => exact fun _ => one_ps.bd
  | succ t ih =>
    intro ht
    have h1 := ih (by omega)
    have h2 : Bd .f64 (ar .mul .f64 u (pv u t)) (1086 + 11 * t) := bd_mul hu h1 (show 1086 + 11 * t < 2098 by omega) (show 1086 + (1074 + 11 * t) ≤ 1086 + 11 * t + 1074 by omega)
    have h3 : Bd .f64 (ar .quo .f64 (ar .mul .f64 u (pv u t)) (some (fe (2 * (8 - t) * (2 * (8 - t) + 1))))) (1084 + 11 * t) := bd_quo h2 (den_ps t (by omega)).lo (show 1084 + 11 * t < 2098 by omega) (show 1086 + 11 * t + 1074 ≤ 1084 + 11 * t + 1076 by omega)
    exact (bd_sub (one_ps.bd.mono (by omega)) h3 (show 1084 + 11 * t + 1 < 2098 by omega)).mono (by omega)
theorem snV_bd {f : Option Nat} (h : Bd .f64 f 1075) : Bd .f64 (snV f) 1168 := by
  have h1 : Bd .f64 (zV f) 1080 := bd_mul (f2V_bd (f1V_bd h)) turn_bd (show 1080 < 2098 by decide) (show 1077 + 1077 ≤ 1080 + 1074 by decide)
  have h2 : Bd .f64 (ar .mul .f64 (zV f) (zV f)) 1086 := bd_mul h1 h1 (show 1086 < 2098 by decide) (show 1080 + 1080 ≤ 1086 + 1074 by decide)
  exact bd_mul h1 (pv_bd h2 8 (Nat.le_refl _)) (show 1168 < 2098 by decide) (show 1080 + (1074 + 11 * 8) ≤ 1168 + 1074 by decide)

theorem neg_rg (b : Nat) : rg .f64 (Op.negFloat .f64 b) = rg .f64 b := by
  show (b ^^^ 2 ^ 63) % 2 ^ 63 = b % 2 ^ 63
  rw [Nat.xor_mod_two_pow, Nat.mod_self, Nat.xor_zero]
theorem neg_lt {b : Nat} (h : b < 2 ^ 64) : Op.negFloat .f64 b < 2 ^ 64 := Nat.xor_lt_two_pow h (by decide)
theorem rep_neg {v : Option Nat} {b : Nat} (h : Rep .f64 v b) : Rep .f64 (v.map (Op.negFloat .f64)) (Op.negFloat .f64 b) := by
  have hn : nan .f64 (Op.negFloat .f64 b) = nan .f64 b := by rw [nan_iff, nan_iff]; show decide (_ < rg .f64 (Op.negFloat .f64 b)) = decide (_ < rg .f64 b); rw [neg_rg]
  cases v with
  | none => exact ⟨neg_lt h.lt, by rw [hn]; exact h.none⟩
  | some c =>
    have := h.some
    subst this
    exact rep_some (neg_lt h.lt) (by rw [hn]; exact h.2.2)
theorem neg_bd {v : Option Nat} {a : Nat} (h : Bd .f64 v a) : Bd .f64 (v.map (Op.negFloat .f64)) a := by
  obtain ⟨b, rfl, h1, h2⟩ := h
  exact ⟨_, rfl, by rw [neg_rg]; exact h1, by rw [neg_rg]; exact h2⟩
theorem sinV_bd {x : Nat} (h : Bd .f64 (some x) (52 + 1074)) : Bd .f64 (sinV x) 1168 := by
  have h1 := snV_bd (frV_bd h)
  unfold sinV
  split
  · exact neg_bd h1
  · exact h1

theorem fe_k8 : ∀ t : Nat, t < 9 → cm .geq .f64 (some (fe (8 - t))) (some one6) = decide (t < 8) := by decide +kernel
theorem fe_d8 : ∀ t : Nat, t < 8 → ar .sub .f64 (some (fe (8 - t))) (some one6) = some (fe (8 - (t + 1 : Nat))) := by decide +kernel
theorem den_k : ∀ t : Nat, t < 8 → ar .mul .f64 (ar .mul .f64 (some two6) (some (fe (8 - t)))) (ar .add .f64 (ar .mul .f64 (some two6) (some (fe (8 - t)))) (some one6)) = some (fe (2 * (8 - t) * (2 * (8 - t) + 1))) := by decide +kernel
end Flo
end Go.Proofs.Ytpebdcimbdbbmaa
