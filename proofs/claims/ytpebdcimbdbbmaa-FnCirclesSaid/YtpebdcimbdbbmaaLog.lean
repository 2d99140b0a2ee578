/-
  The logarithm as a chain of operations: halved or doubled till it is near 1, then a series; its bound. Conditions: those that each theorem names.
-/
import Derived.Test.YtpebdcimbdbbmaaLo
import Derived.Test.YtpebdcimbdbbmaaRoot
namespace Go.Proofs.Ytpebdcimbdbbmaa
namespace Flo
open Go

/-- The float64 of a whole number. -/
def fe (n : Int) : Nat := FloatKind.f64.nearest n
abbrev one6 : Nat := 4607182418800017408
abbrev two6 : Nat := 4611686018427387904
abbrev hi6 : Nat := 4609434218613702656
abbrev lo6 : Nat := 4604930618986332160
abbrev ln6 : Nat := 4604418534313441775

/-- Halved j times. -/
def hv (v : Option Nat) : Nat → Option Nat
  | 0 => v
  | j + 1 => ar .quo .f64 (hv v j) (some two6)
/-- Doubled i times. -/
def dv (v : Option Nat) : Nat → Option Nat
  | 0 => v
  | i + 1 => ar .mul .f64 (dv v i) (some two6)
/-- The series' first t steps. -/
def qv (u : Option Nat) : Nat → Option Nat
  | 0 => some 0
  | t + 1 => ar .add .f64 (ar .quo .f64 (some one6) (some (fe (25 - 2 * t)))) (ar .mul .f64 u (qv u t))
/-- The fraction that the series is of. -/
def sfV (x : Option Nat) : Option Nat := ar .quo .f64 (ar .sub .f64 x (some one6)) (ar .add .f64 x (some one6))
/-- The end: of x and the exponent e. -/
def lgF (x : Option Nat) (e : Int) : Option Nat :=
  ar .add .f64 (ar .mul .f64 (some two6) (ar .mul .f64 (sfV x) (qv (ar .mul .f64 (sfV x) (sfV x)) 13))) (ar .mul .f64 (some (fe e)) (some ln6))

/-- v is the logarithm of b. -/
structure LogAt (b : Nat) (v : Option Nat) (j i : Nat) : Prop where
  up : ∀ t, t < j → cm .geq .f64 (hv (some b) t) (some hi6) = true
  upEnd : cm .geq .f64 (hv (some b) j) (some hi6) = false
  down : ∀ t, t < i → cm .lss .f64 (dv (hv (some b) j) t) (some lo6) = true
  downEnd : cm .lss .f64 (dv (hv (some b) j) i) (some lo6) = false
  v : v = lgF (dv (hv (some b) j) i) ((j : Int) - i)
def LogIs (b : Nat) (v : Option Nat) : Prop := ∃ j i, LogAt b v j i
theorem LogIs.uniq {b : Nat} {u v : Option Nat} (h1 : LogIs b u) (h2 : LogIs b v) : u = v := by
  obtain ⟨j1, i1, a⟩ := h1
  obtain ⟨j2, i2, c⟩ := h2
  have hj : j1 = j2 := by
    rcases Nat.lt_trichotomy j1 j2 with h | h | h
    · have := c.up j1 h; rw [a.upEnd] at this; cases this
    · exact h
    · have := a.up j2 h; rw [c.upEnd] at this; cases this
  subst hj
  have hi : i1 = i2 := by
    rcases Nat.lt_trichotomy i1 i2 with h | h | h
    · have := c.down i1 h; rw [a.downEnd] at this; cases this
    · exact h
    · have := a.down i2 h; rw [c.downEnd] at this; cases this
  subst hi
  rw [a.v, c.v]
open Classical in
/-- The logarithm. -/
noncomputable def lgV (b : Nat) : Option Nat := if h : ∃ v, LogIs b v then h.choose else none
theorem lgV_eq {b : Nat} {v : Option Nat} (h : LogIs b v) : lgV b = v := by
  unfold lgV
  rw [dif_pos ⟨v, h⟩]
  exact LogIs.uniq (Exists.choose_spec (⟨v, h⟩ : ∃ v, LogIs b v)) h

/-! ### Comparisons of positive numbers -/

theorem cm_pos {op : BinOp} {x y : Nat} (hx : rg .f64 x < FloatKind.f64.format.infRung) (hy : rg .f64 y < FloatKind.f64.format.infRung) :
    ord .f64 (some x) (some y) = some (compare (sv .f64 x) (sv .f64 y)) :=
  order_sv .f64 x y ((not_nan_iff .f64 x).2 (Nat.le_of_lt hx)) ((not_nan_iff .f64 y).2 (Nat.le_of_lt hy))
theorem sv_pos {x : Nat} (h : sg .f64 x = false) : sv .f64 x = (mg FloatKind.f64.format.binade (rg .f64 x) : Int) := by unfold sv; rw [h]; rfl

theorem cm_geq {x y : Nat} (hx : rg .f64 x < FloatKind.f64.format.infRung) (hy : rg .f64 y < FloatKind.f64.format.infRung) : cm .geq .f64 (some x) (some y) = decide (sv .f64 y ≤ sv .f64 x) := by
  unfold cm
  rw [cm_pos (op := .geq) hx hy]
  rw [cmp_int]
  by_cases h : sv .f64 x < sv .f64 y
  · rw [if_pos h, decide_eq_false (by omega)]; rfl
  · rw [if_neg h]
    by_cases h2 : sv .f64 x = sv .f64 y
    · rw [if_pos h2, decide_eq_true (by omega)]; rfl
    · rw [if_neg h2, decide_eq_true (by omega)]; rfl
theorem cm_lss {x y : Nat} (hx : rg .f64 x < FloatKind.f64.format.infRung) (hy : rg .f64 y < FloatKind.f64.format.infRung) : cm .lss .f64 (some x) (some y) = decide (sv .f64 x < sv .f64 y) := by
  unfold cm
  rw [cm_pos (op := .lss) hx hy]
  rw [cmp_int]
  by_cases h : sv .f64 x < sv .f64 y
  · rw [if_pos h, decide_eq_true h]; rfl
  · rw [if_neg h, decide_eq_false h]
    by_cases h2 : sv .f64 x = sv .f64 y
    · rw [if_pos h2]; rfl
    · rw [if_neg h2]; rfl

theorem hi_sv : sg .f64 hi6 = false ∧ rg .f64 hi6 < FloatKind.f64.format.infRung ∧ mg FloatKind.f64.format.binade (rg .f64 hi6) = 3 * 2 ^ 1073 := by decide +kernel
theorem lo_sv : sg .f64 lo6 = false ∧ rg .f64 lo6 < FloatKind.f64.format.infRung ∧ mg FloatKind.f64.format.binade (rg .f64 lo6) = 3 * 2 ^ 1072 := by decide +kernel
theorem one_sv : sg .f64 one6 = false ∧ rg .f64 one6 < FloatKind.f64.format.infRung ∧ mg FloatKind.f64.format.binade (rg .f64 one6) = 2 ^ 1074 := by decide +kernel
theorem two_sv : sg .f64 two6 = false ∧ rg .f64 two6 < FloatKind.f64.format.infRung ∧ mg FloatKind.f64.format.binade (rg .f64 two6) = 2 ^ 1075 := by decide +kernel
theorem one_ps : Ps .f64 (some one6) 1074 1074 := ⟨_, rfl, one_sv.1, one_sv.2.1, Nat.le_of_eq one_sv.2.2.symm, Nat.le_of_eq one_sv.2.2⟩
theorem two_ps : Ps .f64 (some two6) 1075 1075 := ⟨_, rfl, two_sv.1, two_sv.2.1, Nat.le_of_eq two_sv.2.2.symm, Nat.le_of_eq two_sv.2.2⟩

/-- Halving: while it is not below 3/2. -/
theorem half_ps {v : Option Nat} {a : Nat} (h : Ps .f64 v 925 a) (ha : a ≤ 1202) (hc : cm .geq .f64 v (some hi6) = true) : 1074 ≤ a ∧ Ps .f64 (ar .quo .f64 v (some two6)) 925 (a - 1) := by
  obtain ⟨M, hM⟩ : ∃ M : Nat, M = 1074 := ⟨_, rfl⟩
  have h1 : Ps .f64 v M a := by
    obtain ⟨b, rfl, s, r, l, u⟩ := h
    refine ⟨b, rfl, s, r, ?_, u⟩
    rw [cm_geq r hi_sv.2.1, sv_pos s, sv_pos hi_sv.1, hi_sv.2.2] at hc
    have h2 := of_decide_eq_true hc
    have h3 : 3 * 2 ^ 1073 ≤ mg FloatKind.f64.format.binade (rg .f64 b) := Int.ofNat_le.1 h2
    have h4 : 2 ^ M ≤ 3 * 2 ^ 1073 := by subst hM; decide +kernel
    exact Nat.le_trans h4 h3
  have h5 : M ≤ a := by
    obtain ⟨b, rfl, s, r, l, u⟩ := h1
    exact (Nat.pow_le_pow_iff_right (show 1 < 2 by decide)).1 (Nat.le_trans l u)
  refine ⟨by omega, ps_quo (h1.mono (c' := 926) (by omega) (Nat.le_refl _)) two_ps (show a - 1 < 2098 by omega) (show a + 1074 ≤ a - 1 + 1075 by omega) (show 925 + 1075 ≤ 926 + 1074 by decide)⟩

/-- Doubling: while it is below 3/4. -/
theorem dbl_ps {v : Option Nat} {c a : Nat} (h : Ps .f64 v c a) (ha : a ≤ 1203) (hc : cm .lss .f64 v (some lo6) = true) : c < 1074 ∧ Ps .f64 (ar .mul .f64 v (some two6)) (c + 1) 1075 := by
  obtain ⟨M, hM⟩ : ∃ M : Nat, M = 1074 := ⟨_, rfl⟩
  have h1 : Ps .f64 v c M ∧ c < M := by
    obtain ⟨b, rfl, s, r, l, u⟩ := h
    rw [cm_lss r lo_sv.2.1, sv_pos s, sv_pos lo_sv.1, lo_sv.2.2] at hc
    have h2 := of_decide_eq_true hc
    have h3 : mg FloatKind.f64.format.binade (rg .f64 b) < 3 * 2 ^ 1072 := Int.ofNat_lt.1 h2
    have h4 : 3 * 2 ^ 1072 ≤ 2 ^ M := by subst hM; decide +kernel
    exact ⟨⟨b, rfl, s, r, l, by omega⟩, (Nat.pow_lt_pow_iff_right (show 1 < 2 by decide)).1 (by omega)⟩
  exact ⟨by omega, ps_mul h1.1 two_ps (show 1075 < 2098 by decide) (show M + 1075 ≤ 1075 + 1074 by omega) (show c + 1 + 1074 ≤ c + 1075 by omega)⟩

/-! ### The series and the end: bounds -/

/-- Behind the first loop: below 3/2. -/
theorem hi_ps {x c a : Nat} (h : Ps .f64 (some x) c a) (h1 : cm .geq .f64 (some x) (some hi6) = false) : Ps .f64 (some x) c 1075 := by
  obtain ⟨N, hN⟩ : ∃ N : Nat, N = 1075 := ⟨_, rfl⟩
  obtain ⟨b, e, s, r, l, u⟩ := h
  injection e with e
  subst e
  rw [cm_geq r hi_sv.2.1, sv_pos s, sv_pos hi_sv.1, hi_sv.2.2] at h1
  have f1 : mg FloatKind.f64.format.binade (rg .f64 x) < 3 * 2 ^ 1073 := Int.ofNat_lt.1 (Int.not_le.1 (of_decide_eq_false h1))
  have f2 : 3 * 2 ^ 1073 ≤ 2 ^ N := by subst hN; decide +kernel
  exact ⟨x, rfl, s, r, l, by rw [← hN]; omega⟩

theorem sub_one_bd {x c : Nat} (h : Ps .f64 (some x) c 1075) (h2 : cm .lss .f64 (some x) (some lo6) = false) : Bd .f64 (ar .sub .f64 (some x) (some one6)) 1074 ∧ Ps .f64 (some x) 1073 1075 := by
  obtain ⟨b, e, s, r, l, u⟩ := h
  injection e with e
  subst e
  rw [cm_lss r lo_sv.2.1, sv_pos s, sv_pos lo_sv.1, lo_sv.2.2] at h2
  have f2 : 3 * 2 ^ 1072 ≤ mg FloatKind.f64.format.binade (rg .f64 x) := Int.ofNat_le.1 (Int.not_lt.1 (of_decide_eq_false h2))
  obtain ⟨N, hN⟩ : ∃ N : Nat, N = 1072 := ⟨_, rfl⟩
  have e1 : 2 ^ 1073 = 2 * 2 ^ N := by rw [show 1073 = N + 1 by omega, Nat.pow_succ, Nat.mul_comm]
  have e2 : 2 ^ 1074 = 4 * 2 ^ N := by rw [show 1074 = N + 1 + 1 by omega, Nat.pow_succ, Nat.pow_succ, Nat.mul_assoc, Nat.mul_comm]
  have e3 : 2 ^ 1075 = 8 * 2 ^ N := by rw [show 1075 = N + 1 + 1 + 1 by omega, Nat.pow_succ, Nat.pow_succ, Nat.pow_succ, Nat.mul_assoc, Nat.mul_assoc, Nat.mul_comm]
  rw [e3] at u
  rw [← hN] at f2
  generalize 2 ^ N = H at *
  refine ⟨bd_sub_sv r one_sv.2.1 (show 1074 < 2098 by decide) ?_, ⟨x, rfl, s, r, ?_, ?_⟩⟩
  · rw [sv_pos s, sv_pos one_sv.1, one_sv.2.2, e2]
    omega
  · rw [e1]; omega
  · rw [e3]; omega

theorem fe_ps : ∀ t : Nat, t < 13 → Ps .f64 (some (fe (25 - 2 * t))) 1074 1079 := by
  have h : ∀ t : Nat, t < 13 → sg .f64 (fe (25 - 2 * (t : Int))) = false ∧ rg .f64 (fe (25 - 2 * (t : Int))) < FloatKind.f64.format.infRung ∧ 2 ^ 1074 ≤ mg FloatKind.f64.format.binade (rg .f64 (fe (25 - 2 * (t : Int)))) ∧ mg FloatKind.f64.format.binade (rg .f64 (fe (25 - 2 * (t : Int)))) ≤ 2 ^ 1079 := by decide +kernel
  intro t ht
  exact ⟨_, rfl, (h t ht).1, (h t ht).2.1, (h t ht).2.2.1, (h t ht).2.2.2⟩

theorem zero_bd (a : Nat) : Bd .f64 (some 0) a := ⟨0, rfl, by decide +kernel, Nat.le_trans (Nat.le_of_eq (by decide +kernel : mg FloatKind.f64.format.binade (rg .f64 0) = 0)) (Nat.zero_le _)⟩

theorem qv_bd {u : Option Nat} (hu : Bd .f64 u 1074) : ∀ t, t ≤ 13 → Bd .f64 (qv u t) (1074 + t) := by
  intro t
  induction t with
  | zero => exact fun _ => zero_bd _
  | succ t ih =>
    intro ht
    have h1 := ih (by omega)
    have h2 : Bd .f64 (ar .quo .f64 (some one6) (some (fe (25 - 2 * t)))) (1074 + t) := bd_quo one_ps.bd (fe_ps t (by omega)).lo (show 1074 + t < 2098 by omega) (show 1074 + 1074 ≤ 1074 + t + 1074 by omega)
    have h3 : Bd .f64 (ar .mul .f64 u (qv u t)) (1074 + t) := bd_mul hu h1 (show 1074 + t < 2098 by omega) (show 1074 + (1074 + t) ≤ 1074 + t + 1074 by omega)
    exact bd_add h2 h3 (show 1074 + t + 1 < 2098 by omega)

theorem fe_bd : ∀ n : Int, -200 ≤ n → n ≤ 200 → Bd .f64 (some (fe n)) 1082 := by
  have h : ∀ t : Nat, t < 401 → rg .f64 (fe ((t : Int) - 200)) < FloatKind.f64.format.infRung ∧ mg FloatKind.f64.format.binade (rg .f64 (fe ((t : Int) - 200))) ≤ 2 ^ 1082 := by decide +kernel
  intro n h0 h1
  have := h (n + 200).toNat (by omega)
  rw [show (((n + 200).toNat : Nat) : Int) - 200 = n by omega] at this
  exact ⟨_, rfl, this.1, this.2⟩
theorem ln_bd : Bd .f64 (some ln6) 1074 := ⟨_, rfl, by decide +kernel, by decide +kernel⟩

theorem lgF_bd {x : Nat} {c : Nat} {e : Int} (h : Ps .f64 (some x) c 1075) (h2 : cm .lss .f64 (some x) (some lo6) = false) (e0 : -200 ≤ e) (e1 : e ≤ 200) : Bd .f64 (lgF (some x) e) 1089 := by
  obtain ⟨g1, g2⟩ := sub_one_bd h h2
  have g3 : Ps .f64 (ar .add .f64 (some x) (some one6)) 1074 1076 := ps_add g2 (one_ps.mono (Nat.le_refl _) (show 1074 ≤ 1075 by decide)) (show 1075 + 1 < 2098 by decide)
  have s1 : Bd .f64 (sfV (some x)) 1074 := bd_quo g1 g3.lo (show 1074 < 2098 by decide) (show 1074 + 1074 ≤ 1074 + 1074 by decide)
  have u1 : Bd .f64 (ar .mul .f64 (sfV (some x)) (sfV (some x))) 1074 := bd_mul s1 s1 (show 1074 < 2098 by decide) (show 1074 + 1074 ≤ 1074 + 1074 by decide)
  have q1 : Bd .f64 _ 1087 := qv_bd u1 13 (Nat.le_refl _)
  have m1 : Bd .f64 (ar .mul .f64 (sfV (some x)) (qv (ar .mul .f64 (sfV (some x)) (sfV (some x))) 13)) 1087 := bd_mul s1 q1 (show 1087 < 2098 by decide) (show 1074 + 1087 ≤ 1087 + 1074 by decide)
  have m2 : Bd .f64 (ar .mul .f64 (some two6) (ar .mul .f64 (sfV (some x)) (qv (ar .mul .f64 (sfV (some x)) (sfV (some x))) 13))) 1088 := bd_mul two_ps.bd m1 (show 1088 < 2098 by decide) (show 1075 + 1087 ≤ 1088 + 1074 by decide)
  have m3 : Bd .f64 (ar .mul .f64 (some (fe e)) (some ln6)) 1088 := bd_mul (fe_bd e e0 e1) ln_bd (show 1088 < 2098 by decide) (show 1082 + 1074 ≤ 1088 + 1074 by decide)
  exact bd_add m2 m3 (show 1088 + 1 < 2098 by decide)

/-! ### Whole numbers as floats -/

theorem fe_inc : ∀ n : Int, -200 ≤ n → n < 200 → ar .add .f64 (some (fe n)) (some one6) = some (fe (n + 1)) := by
  have h : ∀ t : Nat, t < 400 → FloatKind.f64.format.add (fe ((t : Int) - 200)) one6 = some (fe ((t : Int) - 200 + 1)) := by decide +kernel
  intro n h0 h1
  have := h (n + 200).toNat (by omega)
  rw [show (((n + 200).toNat : Nat) : Int) - 200 = n by omega] at this
  exact this
theorem fe_dec : ∀ n : Int, -200 < n → n ≤ 200 → ar .sub .f64 (some (fe n)) (some one6) = some (fe (n - 1)) := by
  have h : ∀ t : Nat, t < 400 → FloatKind.f64.format.sub (fe ((t : Int) - 199)) one6 = some (fe ((t : Int) - 199 - 1)) := by decide +kernel
  intro n h0 h1
  have := h (n + 199).toNat (by omega)
  rw [show (((n + 199).toNat : Nat) : Int) - 199 = n by omega] at this
  exact this
theorem fe_rep (n : Int) : Rep .f64 (some (fe n)) (fe n) := rep_write .f64 (.number (n < 0) n.natAbs 0) rfl
theorem fe_k : ∀ t : Nat, t < 14 → cm .geq .f64 (some (fe (25 - 2 * t))) (some one6) = decide (t < 13) := by decide +kernel
theorem fe_k2 : ∀ t : Nat, t < 13 → ar .sub .f64 (some (fe (25 - 2 * t))) (some two6) = some (fe (25 - 2 * (t + 1 : Nat))) := by decide +kernel
end Flo
end Go.Proofs.Ytpebdcimbdbbmaa
