/-
  Is a float32 subnormal: the program's function. Conditions: the arguments are floats.
-/
import Derived.Test.YtpebdcimbdbbmaaBits
namespace Go.Proofs.Ytpebdcimbdbbmaa
open Go.RowKit Flo

theorem subB_nan {b : Nat} (h : nan .f32 b = true) : subB b = false := by
  have h1 : ¬ rg .f32 b ≤ FloatKind.f32.format.infRung := fun hh => by rw [(not_nan_iff .f32 b).2 hh] at h; cases h
  rw [show FloatKind.f32.format.infRung = 2139095040 from rfl] at h1
  have h2 : decide (rg .f32 b < 8388608) = false := decide_eq_false (by omega)
  simp only [subB, h2, Bool.and_false]
theorem subB_zero {b : Nat} (h : rg .f32 b = 0) : subB b = false := by simp [subB, h]
theorem subB_num {b : Nat} (h : rg .f32 b ≠ 0) : subB b = decide (rg .f32 b < 8388608) := by
  have : decide (0 < rg .f32 b) = true := decide_eq_true (by omega)
  simp only [subB, this, Bool.true_and]

theorem sub_impl {b : Nat} {v : Option Nat} (h : Rep .f32 v b) (w : World) : Calls Try.prog 58 #[.float .f32 b] w fun e w' => e = .returned (.bool (subB b)) ∧ ∃ n, w' = w.drewN n := by
  cases hn : nan .f32 b
  · have hu : Rep .f64 (some (upw b)) (upw b) := rep_some (upw_lt b) (upw_nan hn)
    have hz := zero_test b hn
    by_cases hr : rg .f32 b = 0
    · rw [decide_eq_true hr] at hz
      rw [subB_zero hr]
      have ho : FloatKind.f32.format.order b 0 = some .eq := by simpa using hz
      clear hz hr hu
      go_enter Try.func58, Try.ntmps58
      go_wp2_with fail
      go_ret
      exact ⟨rfl, 0, rfl⟩
    · rw [decide_eq_false hr] at hz
      rw [subB_num hr]
      have ho : (FloatKind.f32.format.order b 0 != some .eq) = true := by simpa using hz
      have hc := fun w => run_upw (P := Try.prog) 22 26 Try.underlying22 Try.underlying26 hn w
      have HT := Lib.hid (low_test b hn)
      clear hz hr
      go_enter Try.func58, Try.ntmps58
      go_wp2_with (go_at_call 85; refine (abs_any hu _).mono ?_; rintro e w' ⟨rfl, rfl⟩)
      go_ret
      exact ⟨ret_bool HT.out, 0, rfl⟩
  · have ho : (FloatKind.f32.format.order b 0 != some .eq) = true := by rw [order_left hn]; rfl
    have hc := fun w => run_up_nan (P := Try.prog) 22 26 Try.underlying22 Try.underlying26 hn w
    have HT := Lib.hid (show (FloatKind.f64.format.order (absw (qnan b w)) 4039728865751334912 == some .lt) = subB b by rw [subB_nan hn, order_left (by rw [absw_nan]; exact qnan_nan b w)]; rfl)
    have hq : Rep .f64 none (qnan b w) := ⟨qnan_lt b w, qnan_nan b w⟩
    go_enter Try.func58, Try.ntmps58
    go_wp2_with (go_at_call 85; refine (abs_any hq _).mono ?_; rintro e w' ⟨rfl, rfl⟩)
    go_ret
    exact ⟨ret_bool HT.out, 1, rfl⟩
end Go.Proofs.Ytpebdcimbdbbmaa
