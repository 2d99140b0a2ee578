/-
  The angle: the reference's function at finite numbers that are not both zero. Conditions: those that each theorem names.
-/
import Derived.Test.YtpebdcimbdbbmaaAngW
namespace Go.Proofs.Ytpebdcimbdbbmaa
set_option linter.unusedVariables false
set_option linter.unusedSimpArgs false
open Go.RowKit Flo

set_option maxHeartbeats 16000000 in
theorem ang_spec_f {y x : Nat} {xn yn : Bool} (h : AngC y x false xn yn) (w : World) : Calls Try.prog 102 #[.float .f64 (upw y), .float .f64 (upw x)] w fun e w' => ∃ r, e = .returned (.float .f64 r) ∧ Rep .f64 (angV (absw (upw y)) (absw (upw x)) false xn yn) r ∧ ∃ n, w' = w.drewN n := by
  have hneg := run_neg6
  have c1 := rep_one
  have c2 := rep_two
  have c5 := rep_half
  have c6 := rep_quart
  have c7 := rep_turn
  have c8 := rep_eight
  have c0 := rep_z6
  have uy := rep_upw h.fy
  have ux := rep_upw h.fx
  have ay := rep_absw h.fy
  have ax := rep_absw h.fx
  have sz := Lib.hid (sub_self (fin_upw h.fy))
  have sy := fun w => run_float_arith (P := Try.prog) w .sub 26 .f64 (upw y) (upw y) 0 (sub_self (fin_upw h.fy))
  have sx := fun w => run_float_arith (P := Try.prog) w .sub 26 .f64 (upw x) (upw x) 0 (sub_self (fin_upw h.fx))
  have h00 := order_zero
  have hov := h.ov
  have hxn := h.xn
  have hyn := h.yn
  have hnz := h.nz
  have oy := order0 ((not_nan_iff .f32 y).2 (Nat.le_of_lt h.fy))
  have ox := order0 ((not_nan_iff .f32 x).2 (Nat.le_of_lt h.fx))
  rw [← ox, ← oy] at hnz
  rw [← ox] at hxn
  rw [← oy] at hyn
  clear h ox oy
  rcases hnz with hz | ⟨hz1, hz2⟩
  all_goals
    go_enter Try.func102, Try.ntmps102
    go_wp2_with (first
      | (refine wpList_ar rfl _ _ _ _ _ rfl rfl _ _ _ rfl rfl uy uy ?_; intro r n hr; obtain rfl := (rep_to hr sz.out.symm).some)
      | (go_at_call 85; refine (abs_any (by assumption) _).mono ?_; rintro e w' ⟨rfl, rfl⟩)
      | (refine wpList_ar rfl _ _ _ _ _ rfl rfl _ _ _ rfl rfl (by assumption) (by assumption) ?_; intro r n hr))
    have hr0 : Rep .f64 (tA (qA false (absw (upw y)) (absw (upw x))) 0) _ := hr
    clear hr
    go_loopw [8, 9] (fun t i wr => ∃ (k q r : Nat), k ≤ 3 ∧ t = .float .f64 r ∧ i = .int .i64 (k : Int) ∧ wr = w.drewN q ∧ Rep .f64 (tA (qA false (absw (upw y)) (absw (upw x))) k) r) (fun _ i _ => (3 - intOf i).toNat)
    case atStart => exact ⟨0, _, _, Nat.zero_le _, rfl, rfl, rfl, hr0⟩
    case round =>
      clear hr0
      obtain ⟨k, q, s, hk, rfl, rfl, rfl, ht⟩ := hrel
      by_cases hlt : k < 3
      · go_wp2_with (first
          | (go_at_call 70; refine (sqrt_any (by assumption) _).mono ?_; rintro e w' ⟨r2, rfl, hr2, n2, rfl⟩)
          | (refine wpList_ar rfl _ _ _ _ _ rfl rfl _ _ _ rfl rfl (by assumption) (by assumption) ?_; intro r n hr))
        go_roundw
        case rel => exact ⟨k + 1, _, _, by omega, rfl, by go_num, rfl, hr⟩
        case measure => simp [intOf]; omega
      · obtain rfl : k = 3 := by omega
        clear hlt
        go_wp2_with (refine wpList_ar rfl _ _ _ _ _ rfl rfl _ _ _ rfl rfl ht ht ?_; intro u n hu)
        go_loopw [11, 12] (fun i o wr => ∃ (t q s : Nat), t ≤ 8 ∧ i = .float .f64 s ∧ o = .int .i64 (15 - 2 * (t : Int)) ∧ wr = w.drewN q ∧ Rep .f64 (pA (ar .mul .f64 (tA (qA false (absw (upw y)) (absw (upw x))) 3) (tA (qA false (absw (upw y)) (absw (upw x))) 3)) t) s) (fun _ o _ => (intOf o + 200).toNat)
        case atStart => exact ⟨0, _, 0, Nat.zero_le _, rfl, rfl, rfl, c0⟩
        case round =>
          obtain ⟨t, q2, p, ht8, rfl, rfl, rfl, hp⟩ := hrel
          have hk := fe_rep (15 - 2 * (t : Int))
          have hfe : ∀ n, floatOfInt .f64 n = fe n := fun _ => rfl
          by_cases hlt : t < 8
          · have g1 : (1 : Int) ≤ 15 - 2 * (t : Int) := by omega
            go_wp2_with (refine wpList_ar rfl _ _ _ _ _ rfl rfl _ _ _ rfl rfl (by assumption) (by assumption) ?_; intro r n hr)
            go_roundw
            case rel => exact ⟨t + 1, _, _, by omega, rfl, by rw [show 15 - 2 * ((t + 1 : Nat) : Int) = 15 - 2 * (t : Int) - 2 by omega], rfl, hr⟩
            case measure => simp [intOf]; omega
          · obtain rfl : t = 8 := by omega
            clear hlt hu
            cases xn <;> cases yn
            all_goals
              go_wp2_with (refine wpList_ar rfl _ _ _ _ _ rfl rfl _ _ _ rfl rfl (by assumption) (by assumption) ?_; intro r n hr)
              go_ret
              exact ⟨_, rfl, (by first | exact hr | exact rep_neg hr), _, rfl⟩

set_option maxHeartbeats 16000000 in
theorem ang_spec_t {y x : Nat} {xn yn : Bool} (h : AngC y x true xn yn) (w : World) : Calls Try.prog 102 #[.float .f64 (upw y), .float .f64 (upw x)] w fun e w' => ∃ r, e = .returned (.float .f64 r) ∧ Rep .f64 (angV (absw (upw y)) (absw (upw x)) true xn yn) r ∧ ∃ n, w' = w.drewN n := by
  have hneg := run_neg6
  have c1 := rep_one
  have c2 := rep_two
  have c5 := rep_half
  have c6 := rep_quart
  have c7 := rep_turn
  have c8 := rep_eight
  have c0 := rep_z6
  have uy := rep_upw h.fy
  have ux := rep_upw h.fx
  have ay := rep_absw h.fy
  have ax := rep_absw h.fx
  have sz := Lib.hid (sub_self (fin_upw h.fy))
  have sy := fun w => run_float_arith (P := Try.prog) w .sub 26 .f64 (upw y) (upw y) 0 (sub_self (fin_upw h.fy))
  have sx := fun w => run_float_arith (P := Try.prog) w .sub 26 .f64 (upw x) (upw x) 0 (sub_self (fin_upw h.fx))
  have h00 := order_zero
  have hov := h.ov
  have hxn := h.xn
  have hyn := h.yn
  have hnz := h.nz
  have oy := order0 ((not_nan_iff .f32 y).2 (Nat.le_of_lt h.fy))
  have ox := order0 ((not_nan_iff .f32 x).2 (Nat.le_of_lt h.fx))
  rw [← ox, ← oy] at hnz
  rw [← ox] at hxn
  rw [← oy] at hyn
  clear h ox oy
  rcases hnz with hz | ⟨hz1, hz2⟩
  all_goals
    go_enter Try.func102, Try.ntmps102
    go_wp2_with (first
      | (refine wpList_ar rfl _ _ _ _ _ rfl rfl _ _ _ rfl rfl uy uy ?_; intro r n hr; obtain rfl := (rep_to hr sz.out.symm).some)
      | (go_at_call 85; refine (abs_any (by assumption) _).mono ?_; rintro e w' ⟨rfl, rfl⟩)
      | (refine wpList_ar rfl _ _ _ _ _ rfl rfl _ _ _ rfl rfl (by assumption) (by assumption) ?_; intro r n hr))
    have hr0 : Rep .f64 (tA (qA true (absw (upw y)) (absw (upw x))) 0) _ := hr
    clear hr
    go_loopw [8, 9] (fun t i wr => ∃ (k q r : Nat), k ≤ 3 ∧ t = .float .f64 r ∧ i = .int .i64 (k : Int) ∧ wr = w.drewN q ∧ Rep .f64 (tA (qA true (absw (upw y)) (absw (upw x))) k) r) (fun _ i _ => (3 - intOf i).toNat)
    case atStart => exact ⟨0, _, _, Nat.zero_le _, rfl, rfl, rfl, hr0⟩
    case round =>
      clear hr0
      obtain ⟨k, q, s, hk, rfl, rfl, rfl, ht⟩ := hrel
      by_cases hlt : k < 3
      · go_wp2_with (first
          | (go_at_call 70; refine (sqrt_any (by assumption) _).mono ?_; rintro e w' ⟨r2, rfl, hr2, n2, rfl⟩)
          | (refine wpList_ar rfl _ _ _ _ _ rfl rfl _ _ _ rfl rfl (by assumption) (by assumption) ?_; intro r n hr))
        go_roundw
        case rel => exact ⟨k + 1, _, _, by omega, rfl, by go_num, rfl, hr⟩
        case measure => simp [intOf]; omega
      · obtain rfl : k = 3 := by omega
        clear hlt
        go_wp2_with (refine wpList_ar rfl _ _ _ _ _ rfl rfl _ _ _ rfl rfl ht ht ?_; intro u n hu)
        go_loopw [11, 12] (fun i o wr => ∃ (t q s : Nat), t ≤ 8 ∧ i = .float .f64 s ∧ o = .int .i64 (15 - 2 * (t : Int)) ∧ wr = w.drewN q ∧ Rep .f64 (pA (ar .mul .f64 (tA (qA true (absw (upw y)) (absw (upw x))) 3) (tA (qA true (absw (upw y)) (absw (upw x))) 3)) t) s) (fun _ o _ => (intOf o + 200).toNat)
        case atStart => exact ⟨0, _, 0, Nat.zero_le _, rfl, rfl, rfl, c0⟩
        case round =>
          obtain ⟨t, q2, p, ht8, rfl, rfl, rfl, hp⟩ := hrel
          have hk := fe_rep (15 - 2 * (t : Int))
          have hfe : ∀ n, floatOfInt .f64 n = fe n := fun _ => rfl
          by_cases hlt : t < 8
          · have g1 : (1 : Int) ≤ 15 - 2 * (t : Int) := by omega
            go_wp2_with (refine wpList_ar rfl _ _ _ _ _ rfl rfl _ _ _ rfl rfl (by assumption) (by assumption) ?_; intro r n hr)
            go_roundw
            case rel => exact ⟨t + 1, _, _, by omega, rfl, by rw [show 15 - 2 * ((t + 1 : Nat) : Int) = 15 - 2 * (t : Int) - 2 by omega], rfl, hr⟩
            case measure => simp [intOf]; omega
          · obtain rfl : t = 8 := by omega
            clear hlt hu
            cases xn <;> cases yn
            all_goals
              go_wp2_with (refine wpList_ar rfl _ _ _ _ _ rfl rfl _ _ _ rfl rfl (by assumption) (by assumption) ?_; intro r n hr)
              go_ret
              exact ⟨_, rfl, (by first | exact hr | exact rep_neg hr), _, rfl⟩

theorem ang_spec {y x : Nat} {o xn yn : Bool} (h : AngC y x o xn yn) (w : World) : Calls Try.prog 102 #[.float .f64 (upw y), .float .f64 (upw x)] w fun e w' => ∃ r, e = .returned (.float .f64 r) ∧ Rep .f64 (angV (absw (upw y)) (absw (upw x)) o xn yn) r ∧ ∃ n, w' = w.drewN n := by
  cases o
  · exact ang_spec_f h w
  · exact ang_spec_t h w
end Go.Proofs.Ytpebdcimbdbbmaa
