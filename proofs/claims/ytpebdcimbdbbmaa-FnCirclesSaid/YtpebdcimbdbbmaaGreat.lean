/-
  Is a float64 too great to have places behind the point; the reference's sine at a NaN, an infinity, a great number. Conditions: those that each theorem names.
-/
import Derived.Test.YtpebdcimbdbbmaaSinS
import Derived.Test.YtpebdcimbdbbmaaLogK
namespace Go.Proofs.Ytpebdcimbdbbmaa
open Go.RowKit Flo

theorem geB {k : FloatKind} {x y : Nat} (hx : nan k x = false) (hy : nan k y = false) : (k.format.order x y == some .gt || k.format.order x y == some .eq) = decide (sv k y ≤ sv k x) := by
  rw [order_sv k x y hx hy, cmp_int]
  by_cases h1 : sv k x < sv k y
  · rw [if_pos h1, decide_eq_false (by omega)]; rfl
  · rw [if_neg h1, decide_eq_true (show sv k y ≤ sv k x by omega)]
    by_cases h2 : sv k x = sv k y
    · rw [if_pos h2]; rfl
    · rw [if_neg h2]; rfl
theorem leB {k : FloatKind} {x y : Nat} (hx : nan k x = false) (hy : nan k y = false) : (k.format.order x y == some .lt || k.format.order x y == some .eq) = decide (sv k x ≤ sv k y) := by
  rw [order_sv k x y hx hy, cmp_int]
  by_cases h1 : sv k x < sv k y
  · rw [if_pos h1, decide_eq_true (by omega)]; rfl
  · rw [if_neg h1]
    by_cases h2 : sv k x = sv k y
    · rw [if_pos h2, decide_eq_true (by omega)]; rfl
    · rw [if_neg h2, decide_eq_false (by omega)]; rfl

/-- Is it too great to have places behind the point? -/
def gtB (x : Nat) : Bool := decide (4841369599423283200 ≤ rg .f64 x)

theorem svC : sv .f64 4841369599423283200 = (mg FloatKind.f64.format.binade 4841369599423283200 : Int) := by decide +kernel
theorem svD : sv .f64 14064741636278059008 = -(mg FloatKind.f64.format.binade 4841369599423283200 : Int) := by decide +kernel
theorem nanC : nan .f64 4841369599423283200 = false := by decide +kernel
theorem nanD : nan .f64 14064741636278059008 = false := by decide +kernel
theorem mgC_le (r : Nat) : decide (mg FloatKind.f64.format.binade 4841369599423283200 ≤ mg FloatKind.f64.format.binade r) = decide (4841369599423283200 ≤ r) := by
  by_cases h : 4841369599423283200 ≤ r
  · rw [decide_eq_true h, decide_eq_true (mg_le (binade_pos .f64) h)]
  · rw [decide_eq_false h, decide_eq_false (by have := mg_lt (binade_pos .f64) (show r < 4841369599423283200 by omega); omega)]
theorem mgC_pos : 0 < mg FloatKind.f64.format.binade 4841369599423283200 := by decide +kernel
theorem mgC_eq : mg FloatKind.f64.format.binade 4841369599423283200 = 2 ^ 1126 := by decide +kernel

theorem great_abs {x : Nat} (hn : nan .f64 x = false) : (FloatKind.f64.format.order (absw x) 4841369599423283200 == some .gt || FloatKind.f64.format.order (absw x) 4841369599423283200 == some .eq) = gtB x := by
  rw [geB (by rw [absw_nan]; exact hn) nanC, svC, absw_sv]
  have := mgC_le (rg .f64 x)
  unfold gtB
  rw [← this]
  exact decide_eq_decide.2 Int.ofNat_le
theorem great_hi {x : Nat} (hn : nan .f64 x = false) : (FloatKind.f64.format.order x 4841369599423283200 == some .gt || FloatKind.f64.format.order x 4841369599423283200 == some .eq) = (!sg .f64 x && gtB x) := by
  rw [geB hn nanC, svC]
  have h0 := mgC_pos
  unfold gtB sv
  rw [← mgC_le]
  cases sg .f64 x
  · simp only [Bool.false_eq_true, if_false, Bool.not_false, Bool.true_and]
    exact decide_eq_decide.2 Int.ofNat_le
  · simp only [if_true, Bool.not_true, Bool.false_and]
    exact decide_eq_false (by omega)
theorem great_lo {x : Nat} (hn : nan .f64 x = false) : (FloatKind.f64.format.order x 14064741636278059008 == some .lt || FloatKind.f64.format.order x 14064741636278059008 == some .eq) = (sg .f64 x && gtB x) := by
  rw [leB hn nanD, svD]
  have h0 := mgC_pos
  unfold gtB sv
  rw [← mgC_le]
  cases sg .f64 x
  · simp only [Bool.false_eq_true, if_false, Bool.false_and]
    exact decide_eq_false (by omega)
  · simp only [if_true, Bool.true_and]
    exact decide_eq_decide.2 (by omega)

theorem small_bd {x : Nat} (h : gtB x = false) : Bd .f64 (some x) (52 + 1074) := by
  have h1 : rg .f64 x < 4841369599423283200 := by
    unfold gtB at h
    simpa using h
  refine ⟨x, rfl, Nat.lt_trans h1 (by decide +kernel), ?_⟩
  rw [show 52 + 1074 = 1126 from rfl, ← mgC_eq]
  exact mg_le (binade_pos .f64) (Nat.le_of_lt h1)

theorem great_any {x : Nat} (h : Rep .f64 (some x) x) (w : World) : Calls Try.prog 76 #[.float .f64 x] w fun e w' => e = .returned (.bool (gtB x)) ∧ w = w' := by
  have HT := Lib.hid (great_abs h.2.2)
  go_enter Try.func76, Try.ntmps76
  go_wp2_with (go_at_call 85; refine (abs_any h _).mono ?_; rintro e w' ⟨rfl, rfl⟩)
  go_ret
  exact ⟨ret_bool HT.out, rfl⟩

theorem neq_none {x : Nat} (h : Rep .f64 none x) : (FloatKind.f64.format.order x 0 != some .eq) = true := by rw [order_left h.none]; rfl

theorem sw_end {v : Option Nat} {x : Nat} (h : Rep .f64 v x) (hv : ar .sub .f64 v v = none) (w : World) : Calls Try.prog 97 #[.float .f64 x] w fun e w' => e = .returned (.float .f64 9221120237041090561) ∧ ∃ n, w' = w.drewN n := by
  go_enter Try.func97, Try.ntmps97
  go_wp2_with (first
    | (refine wpList_ar rfl _ _ _ _ _ rfl rfl _ _ _ rfl rfl h h ?_; intro r n hr; have g := neq_none (rep_to hr hv.symm))
    | (go_at_call 72; refine (nan_call _).mono ?_; rintro e w' ⟨rfl, rfl⟩))
  go_ret
  exact ⟨rfl, _, rfl⟩

theorem sw_great {x : Nat} (h : Rep .f64 (some x) x) (hx : rg .f64 x < FloatKind.f64.format.infRung) (hg : gtB x = true) (w : World) : Calls Try.prog 97 #[.float .f64 x] w fun e w' => e = .returned (.float .f64 0) ∧ ∃ n, w' = w.drewN n := by
  have h1 := great_hi h.2.2
  have h2 := great_lo h.2.2
  rw [hg, Bool.and_true] at h1 h2
  have hs := sub_self hx
  have h00 := order_zero
  clear hg hx
  cases hsg : sg .f64 x
  · rw [hsg] at h1 h2
    simp only [Bool.not_false] at h1
    go_enter Try.func97, Try.ntmps97
    go_wp2_with (refine wpList_ar rfl _ _ _ _ _ rfl rfl _ _ _ rfl rfl h h ?_; intro rs ns hrs; obtain rfl := (rep_to hrs hs.symm).some)
    go_ret
    exact ⟨rfl, _, rfl⟩
  · rw [hsg] at h1 h2
    simp only [Bool.not_true] at h1
    go_enter Try.func97, Try.ntmps97
    go_wp2_with (refine wpList_ar rfl _ _ _ _ _ rfl rfl _ _ _ rfl rfl h h ?_; intro rs ns hrs; obtain rfl := (rep_to hrs hs.symm).some)
    go_ret
    exact ⟨rfl, _, rfl⟩

theorem small_hi {x : Nat} (hn : nan .f64 x = false) (hg : gtB x = false) : (FloatKind.f64.format.order x 4841369599423283200 == some .gt || FloatKind.f64.format.order x 4841369599423283200 == some .eq) = false := by rw [great_hi hn, hg, Bool.and_false]
theorem small_lo {x : Nat} (hn : nan .f64 x = false) (hg : gtB x = false) : (FloatKind.f64.format.order x 14064741636278059008 == some .lt || FloatKind.f64.format.order x 14064741636278059008 == some .eq) = false := by rw [great_lo hn, hg, Bool.and_false]
end Go.Proofs.Ytpebdcimbdbbmaa
