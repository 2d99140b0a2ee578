/-
  The walk of the law on TenthsOf: it returns true. Conditions: the argument is a float.
-/
import Derived.Test.YtpebdcimbdbbmaaFloor
import Derived.WalkSmall
namespace Go.Proofs.Ytpebdcimbdbbmaa.fnExactTenthsOf
open Go.RowKit Flo

/-- What both hand back. -/
def Post (n : Int) (t : Bool) (w : World) (e : Ending) (w' : World) : Prop := e = .returned (.tuple #[.int .i64 n, .bool t]) ∧ ∃ n, w' = w.drewN n

theorem k_bd : Bd .f64 (some 4631308968768463603) 1080 := ⟨_, rfl, by decide +kernel, by decide +kernel⟩
theorem h_bd : Bd .f64 (some 4602678819172646912) 1095 := ⟨_, rfl, by decide +kernel, by decide +kernel⟩
theorem rep_k : Rep .f64 (some 4631308968768463603) 4631308968768463603 := rep_lit _ _ (by decide +kernel)
theorem rep_h : Rep .f64 (some 4602678819172646912) 4602678819172646912 := rep_lit _ _ (by decide +kernel)

/-- The tenths before they are rounded. -/
noncomputable def tV (b : Nat) : Option Nat := ar .add .f64 (ar .mul .f64 (lgV (upw b)) (some 4631308968768463603)) (some 4602678819172646912)
theorem tV_bd {b : Nat} (h : Bd .f64 (lgV (upw b)) 1089) : Bd .f64 (tV b) (22 + 1074) :=
  bd_add (bd_mul h k_bd (show 1095 < 2098 by decide) (show 1089 + 1080 ≤ 1095 + 1074 by decide)) h_bd (show 1095 + 1 < 2098 by decide)

theorem tV_int {b r : Nat} (h : Bd .f64 (lgV (upw b)) 1089) (hr : Rep .f64 (tV b) r) : tV b = some r ∧ nan .f64 r = false ∧ ∃ n, floatToIntVal .f64 (FloatKind.f64.encode ((FloatKind.f64.decode r).integral .down)) .i64 = some n := by
  have hb := tV_bd h
  obtain ⟨c, e, h1, h2⟩ := hb
  have hb' : Bd .f64 (some c) (22 + 1074) := ⟨c, rfl, h1, h2⟩
  rw [e] at hr
  have := hr.some
  subst this
  exact ⟨e, hr.2.2, f2i_bd (floor_bd hb' (by decide)) (by decide)⟩

/-- The tenths. -/
noncomputable def nV (b : Nat) : Int := (floatToIntVal .f64 (FloatKind.f64.encode ((FloatKind.f64.decode ((tV b).getD 0)).integral .down)) .i64).getD 0
theorem tV_n {b r : Nat} (h : Bd .f64 (lgV (upw b)) 1089) (hr : Rep .f64 (tV b) r) : nan .f64 r = false ∧ floatToIntVal .f64 (FloatKind.f64.encode ((FloatKind.f64.decode r).integral .down)) .i64 = some (nV b) := by
  obtain ⟨e, hn, n, h1⟩ := tV_int h hr
  refine ⟨hn, ?_⟩
  unfold nV
  rw [e]
  show _ = some ((floatToIntVal .f64 (FloatKind.f64.encode ((FloatKind.f64.decode r).integral .down)) .i64).getD 0)
  rw [h1]; rfl
theorem cv_int {b : Nat} {n : Int} (h : floatToIntVal .f64 b .i64 = some n) (w : World) : (convert 26 2 (.float .f64 b)).run Try.prog w = .ok (.int .i64 n) w :=
  run_convert_float_int w 26 2 .f64 .i64 b n (by rw [Try.underlying26]; rfl) Try.underlying2 h

set_option maxHeartbeats 1000000 in
theorem both {b : Nat} (h : Rep .f32 (tell .f32 b) b) : ∃ n t, (∀ w, Calls Try.prog 39 #[.float .f32 b] w (Post n t w)) ∧ ∀ w, Calls Try.prog 38 #[.float .f32 b] w (Post n t w) := by
  have no1 : endS b = false → (∀ w, Calls Try.prog 39 #[.float .f32 b] w (Post 0 false w)) ∧ ∀ w, Calls Try.prog 38 #[.float .f32 b] w (Post 0 false w) := by
    intro he
    refine ⟨fun w => ?_, fun w => ?_⟩
    · go_enter Try.func39, Try.ntmps39
      go_wp2_with (go_at_call 73; refine (finite_impl h _).mono ?_; rintro e w' ⟨rfl, n, rfl⟩)
      go_ret2
      exact ⟨rfl, _, rfl⟩
    · go_enter Try.func38, Try.ntmps38
      go_wp2_with (go_at_call 78; refine (finite_spec h _).mono ?_; rintro e w' ⟨rfl, n, rfl⟩)
      go_ret2
      exact ⟨rfl, _, rfl⟩
  have no2 : endS b = true → (FloatKind.f32.format.order b 0 == some .lt || FloatKind.f32.format.order b 0 == some .eq) = true → (∀ w, Calls Try.prog 39 #[.float .f32 b] w (Post 0 false w)) ∧ ∀ w, Calls Try.prog 38 #[.float .f32 b] w (Post 0 false w) := by
    intro he ho
    refine ⟨fun w => ?_, fun w => ?_⟩
    · go_enter Try.func39, Try.ntmps39
      go_wp2_with (go_at_call 73; refine (finite_impl h _).mono ?_; rintro e w' ⟨rfl, n, rfl⟩)
      go_ret2
      exact ⟨rfl, _, rfl⟩
    · go_enter Try.func38, Try.ntmps38
      go_wp2_with (go_at_call 78; refine (finite_spec h _).mono ?_; rintro e w' ⟨rfl, n, rfl⟩)
      go_ret2
      exact ⟨rfl, _, rfl⟩
  cases he : endS b
  · exact ⟨0, false, no1 he⟩
  · rcases kinds h.lt with hn | ⟨hn, ho⟩ | ⟨hn, ho⟩ | rfl | ⟨hr, ho⟩
    · exfalso
      have h1 : rg .f32 b < 2139095040 := of_decide_eq_true he
      have h2 := (not_nan_iff .f32 b).2 (show rg .f32 b ≤ FloatKind.f32.format.infRung from Nat.le_of_lt h1)
      rw [hn] at h2; cases h2
    · exact ⟨0, false, no2 he (by rw [ho]; rfl)⟩
    · exact ⟨0, false, no2 he (by rw [ho]; rfl)⟩
    · rw [show endS 2139095040 = false by decide +kernel] at he; cases he
    · have hn := (not_nan_iff .f32 b).2 (Nat.le_of_lt hr)
      have hp := up_ps hr ho
      have hru : Rep .f64 (some (upw b)) (upw b) := rep_some (upw_lt b) (upw_nan hn)
      have hc := fun w => run_upw (P := Try.prog) 22 26 Try.underlying22 Try.underlying26 hn w
      have c1 := rep_k
      have c2 := rep_h
      have hend : endS b = true := he
      refine ⟨nV b, true, fun w => ?_, fun w => ?_⟩
      · go_enter Try.func39, Try.ntmps39
        go_wp2_with (first
          | (go_at_call 73; refine (finite_impl h _).mono ?_; rintro e w' ⟨rfl, n, rfl⟩)
          | (go_at_call 74; refine (log_impl hru hp _).mono ?_; rintro e w' ⟨r2, rfl, hr2, hb2, n2, rfl⟩)
          | (refine wpList_ar rfl _ _ _ _ _ rfl rfl _ _ _ rfl rfl hr2 c1 ?_; intro r3 n3 hr3)
          | (refine wpList_ar rfl _ _ _ _ _ rfl rfl _ _ _ rfl rfl hr3 c2 ?_; intro r4 n4 hr4; obtain ⟨g1, g2⟩ := tV_n hb2 hr4; have hcv := cv_int g2)
          | (go_at_call 80; refine (floor_any g1 _).mono ?_; rintro e w' ⟨rfl, rfl⟩))
        go_ret2
        exact ⟨rfl, _, rfl⟩
      · have hl : ∀ w, Calls Try.prog 79 #[.float .f32 b] w fun e w' => e = .returned (.int .i64 (nV b)) ∧ ∃ n, w' = w.drewN n := by
          intro w
          go_enter Try.func79, Try.ntmps79
          go_wp2_with (first
            | (go_at_call 96; refine (log_spec hru hp _).mono ?_; rintro e w' ⟨r2, rfl, hr2, hb2, n2, rfl⟩)
            | (refine wpList_ar rfl _ _ _ _ _ rfl rfl _ _ _ rfl rfl hr2 c1 ?_; intro r3 n3 hr3)
            | (refine wpList_ar rfl _ _ _ _ _ rfl rfl _ _ _ rfl rfl hr3 c2 ?_; intro r4 n4 hr4; obtain ⟨g1, g2⟩ := tV_n hb2 hr4; have hcv := cv_int g2)
            | (go_at_call 80; refine (floor_any g1 _).mono ?_; rintro e w' ⟨rfl, rfl⟩))
          go_ret
          exact ⟨rfl, _, rfl⟩
        go_enter Try.func38, Try.ntmps38
        go_wp2_with (first
          | (go_at_call 78; refine (finite_spec h _).mono ?_; rintro e w' ⟨rfl, n, rfl⟩)
          | (go_at_call 79; refine (hl _).mono ?_; rintro e w' ⟨rfl, n, rfl⟩))
        go_ret2
        exact ⟨rfl, _, rfl⟩

theorem walk (a0 : Nat) (w : World) (w0 : (Lit.float .f32 a0).wf = true) :
    Calls Try.prog 12 #[.float .f32 a0] w fun e w' => e = .returned (.bool true) ∧ Below w.heap.size w w' := by
  obtain ⟨n, t, hi, hs⟩ := both (rep_wf _ _ w0)
  clear w0
  go_enter Try.func12, Try.ntmps12
  go_wp2_with (first
    | (go_at_call 38; refine (hs _).mono ?_; rintro e w' ⟨rfl, n1, rfl⟩)
    | (go_at_call 39; refine (hi _).mono ?_; rintro e w' ⟨rfl, n2, rfl⟩))
  go_ret
  exact ⟨rfl, below_drewN (Below.refl _ _) _⟩
end Go.Proofs.Ytpebdcimbdbbmaa.fnExactTenthsOf
