/-
  The sine: the reference's function. Conditions: a number that is not too great.
-/
import Derived.Test.YtpebdcimbdbbmaaSinW
namespace Go.Proofs.Ytpebdcimbdbbmaa
open Go.RowKit Flo

theorem frV_yes {x : Nat} (h : cm .lss .f64 (ar .sub .f64 (some x) (some (fe (trI x)))) (some 0) = true) : frV x = ar .add .f64 (ar .sub .f64 (some x) (some (fe (trI x)))) (some one6) := by unfold frV; rw [if_pos h]
theorem frV_no {x : Nat} (h : cm .lss .f64 (ar .sub .f64 (some x) (some (fe (trI x)))) (some 0) = false) : frV x = ar .sub .f64 (some x) (some (fe (trI x))) := by unfold frV; rw [h]; rfl
theorem order_zero : FloatKind.f64.format.order 0 0 = some .eq := by decide +kernel
theorem sub_self {x : Nat} (h : rg .f64 x < FloatKind.f64.format.infRung) : ar .sub .f64 (some x) (some x) = some 0 := by
  obtain ⟨m, i, hr, hi, _⟩ := read_num .f64 x h
  show FloatKind.f64.format.sub x x = some 0
  unfold Ieee.Format.sub
  rw [hr]
  show some (FloatKind.f64.format.write _) = some 0
  have hs : Ieee.signed (sg .f64 x) m (i - min i i).toNat + Ieee.signed (!sg .f64 x) m (i - min i i).toNat = 0 := by
    rw [signed_eq, signed_eq]
    cases sg .f64 x <;> simp <;> omega
  show some (FloatKind.f64.format.nearest (if Ieee.signed (sg .f64 x) m (i - min i i).toNat + Ieee.signed (!sg .f64 x) m (i - min i i).toNat = 0 then (sg .f64 x && !sg .f64 x) else decide (Ieee.signed (sg .f64 x) m (i - min i i).toNat + Ieee.signed (!sg .f64 x) m (i - min i i).toNat < 0)) (Ieee.signed (sg .f64 x) m (i - min i i).toNat + Ieee.signed (!sg .f64 x) m (i - min i i).toNat).natAbs (min i i)) = some 0
  rw [hs, if_pos rfl, show (sg .f64 x && !sg .f64 x) = false by cases sg .f64 x <;> rfl]
  rfl
theorem sub_self_is {x r a : Nat} (h : Rep .f64 (some x) x) (hb : Bd .f64 (some x) a) (hr : Rep .f64 (ar .sub .f64 (some x) (some x)) r) : r = 0 := by
  obtain ⟨c, e, h1, _⟩ := hb
  injection e with e
  subst e
  rw [sub_self h1] at hr
  exact hr.some

set_option maxHeartbeats 2000000 in
theorem sines_ttp {x : Nat} (h : Rep .f64 (some x) x) (hb : Bd .f64 (some x) (52 + 1074)) (hN : (FloatKind.f64.format.order x 4841369599423283200 == some .gt || FloatKind.f64.format.order x 4841369599423283200 == some .eq) = false) (hN2 : (FloatKind.f64.format.order x 14064741636278059008 == some .lt || FloatKind.f64.format.order x 14064741636278059008 == some .eq) = false) (hF : cm .lss .f64 (ar .sub .f64 (some x) (some (fe (trI x)))) (some 0) = false) (hA : cm .geq .f64 (frV x) (some half6) = true) (hB : cm .gtr .f64 (f1V (frV x)) (some quart6) = true) (w : World) : Calls Try.prog 97 #[.float .f64 x] w fun e w' => ∃ r, e = .returned (.float .f64 r) ∧ Rep .f64 (sinV x) r ∧ ∃ n, w' = w.drewN n := by
  have hneg := run_neg6
  obtain ⟨hi, _⟩ := frac_bd hb
  have hcv := cv_int6 hi
  have hfe : ∀ n, floatOfInt .f64 n = fe n := fun _ => rfl
  have hft := fe_rep (trI x)
  have c0 := rep_z6
  have h00 := order_zero
  have c1 := rep_one
  have c2 := rep_two
  have c5 := rep_half
  have c6 := rep_quart
  have c7 := rep_turn
  go_enter Try.func97, Try.ntmps97
  go_wp2_with (first
    | (refine wpList_ar rfl _ _ _ _ _ rfl rfl _ _ _ rfl rfl h h ?_; intro rs ns hrs; obtain rfl := sub_self_is h hb hrs)
    | (refine wpList_ar rfl _ _ _ _ _ rfl rfl _ _ _ rfl rfl h hft ?_; intro r1 n1 hr0; have g0 := lss_isv hr0 c0 hF; have hr1 := rep_to hr0 (frV_no hF); have g1 := geq_isv hr1 c5 hA)
    | (refine wpList_ar rfl _ _ _ _ _ rfl rfl _ _ _ rfl rfl hr1 c5 ?_; intro r2 n2 hr2; have hg := rep_to hr2 (f1V_yes hA); have g2 := gtr_is hg c6 hB)
    | (refine wpList_ar rfl _ _ _ _ _ rfl rfl _ _ _ rfl rfl c5 hg ?_; intro r3 n3 hr3; have hf := rep_to hr3 (f2V_yes hB))
    | (refine wpList_ar rfl _ _ _ _ _ rfl rfl _ _ _ rfl rfl hf c7 ?_; intro rz nz hz)
    | (refine wpList_ar rfl _ _ _ _ _ rfl rfl _ _ _ rfl rfl hz hz ?_; intro ru nu hu))
  have hz : Rep .f64 (zV (frV x)) rz := hz
  have hu : Rep .f64 (ar .mul .f64 (zV (frV x)) (zV (frV x))) ru := hu
  go_loopw [7, 8] (fun i o wr => ∃ (t q s : Nat), t ≤ 8 ∧ i = .float .f64 s ∧ o = .int .i64 (8 - (t : Int)) ∧ wr = w.drewN q ∧ Rep .f64 (pv (ar .mul .f64 (zV (frV x)) (zV (frV x))) t) s) (fun _ o _ => (intOf o + 200).toNat)
  case atStart => exact ⟨0, _, _, Nat.zero_le _, rfl, rfl, rfl, rep_one⟩
  case round =>
    obtain ⟨t, q, s, ht, rfl, rfl, rfl, hp⟩ := hrel
    have hk := fe_rep (2 * (8 - (t : Int)) * (2 * (8 - (t : Int)) + 1))
    have m0 : 0 ≤ 2 * (8 - (t : Int)) * (2 * (8 - (t : Int)) + 1) := Int.mul_nonneg (by omega) (by omega)
    have m1 : 2 * (8 - (t : Int)) * (2 * (8 - (t : Int)) + 1) ≤ 16 * 17 := Int.mul_le_mul (by omega) (by omega) (by omega) (by omega)
    by_cases hlt : t < 8
    · have g3 : (1 : Int) ≤ 8 - (t : Int) := by omega
      go_wp2_with (refine wpList_ar rfl _ _ _ _ _ rfl rfl _ _ _ rfl rfl (by assumption) (by assumption) ?_; intro r n hr)
      go_roundw
      case rel => exact ⟨t + 1, _, _, by omega, rfl, by rw [show 8 - ((t + 1 : Nat) : Int) = 8 - (t : Int) - 1 by omega], rfl, hr⟩
      case measure => simp [intOf]; omega
    · obtain rfl : t = 8 := by omega
      go_wp2_with (refine wpList_ar rfl _ _ _ _ _ rfl rfl _ _ _ rfl rfl hz hp ?_; intro r n hr)
      go_ret
      exact ⟨_, rfl, rep_to (rep_neg hr) (sinV_yes hA), _, rfl⟩

set_option maxHeartbeats 2000000 in
theorem sines_ttn {x : Nat} (h : Rep .f64 (some x) x) (hb : Bd .f64 (some x) (52 + 1074)) (hN : (FloatKind.f64.format.order x 4841369599423283200 == some .gt || FloatKind.f64.format.order x 4841369599423283200 == some .eq) = false) (hN2 : (FloatKind.f64.format.order x 14064741636278059008 == some .lt || FloatKind.f64.format.order x 14064741636278059008 == some .eq) = false) (hF : cm .lss .f64 (ar .sub .f64 (some x) (some (fe (trI x)))) (some 0) = true) (hA : cm .geq .f64 (frV x) (some half6) = true) (hB : cm .gtr .f64 (f1V (frV x)) (some quart6) = true) (w : World) : Calls Try.prog 97 #[.float .f64 x] w fun e w' => ∃ r, e = .returned (.float .f64 r) ∧ Rep .f64 (sinV x) r ∧ ∃ n, w' = w.drewN n := by
  have hneg := run_neg6
  obtain ⟨hi, _⟩ := frac_bd hb
  have hcv := cv_int6 hi
  have hfe : ∀ n, floatOfInt .f64 n = fe n := fun _ => rfl
  have hft := fe_rep (trI x)
  have c0 := rep_z6
  have h00 := order_zero
  have c1 := rep_one
  have c2 := rep_two
  have c5 := rep_half
  have c6 := rep_quart
  have c7 := rep_turn
  go_enter Try.func97, Try.ntmps97
  go_wp2_with (first
    | (refine wpList_ar rfl _ _ _ _ _ rfl rfl _ _ _ rfl rfl h h ?_; intro rs ns hrs; obtain rfl := sub_self_is h hb hrs)
    | (refine wpList_ar rfl _ _ _ _ _ rfl rfl _ _ _ rfl rfl h hft ?_; intro r0 n0 hr0; have g0 := lss_isv hr0 c0 hF)
    | (refine wpList_ar rfl _ _ _ _ _ rfl rfl _ _ _ rfl rfl hr0 c1 ?_; intro r1 n1 hr00; have hr1 := rep_to hr00 (frV_yes hF); have g1 := geq_isv hr1 c5 hA)
    | (refine wpList_ar rfl _ _ _ _ _ rfl rfl _ _ _ rfl rfl hr1 c5 ?_; intro r2 n2 hr2; have hg := rep_to hr2 (f1V_yes hA); have g2 := gtr_is hg c6 hB)
    | (refine wpList_ar rfl _ _ _ _ _ rfl rfl _ _ _ rfl rfl c5 hg ?_; intro r3 n3 hr3; have hf := rep_to hr3 (f2V_yes hB))
    | (refine wpList_ar rfl _ _ _ _ _ rfl rfl _ _ _ rfl rfl hf c7 ?_; intro rz nz hz)
    | (refine wpList_ar rfl _ _ _ _ _ rfl rfl _ _ _ rfl rfl hz hz ?_; intro ru nu hu))
  have hz : Rep .f64 (zV (frV x)) rz := hz
  have hu : Rep .f64 (ar .mul .f64 (zV (frV x)) (zV (frV x))) ru := hu
  go_loopw [7, 8] (fun i o wr => ∃ (t q s : Nat), t ≤ 8 ∧ i = .float .f64 s ∧ o = .int .i64 (8 - (t : Int)) ∧ wr = w.drewN q ∧ Rep .f64 (pv (ar .mul .f64 (zV (frV x)) (zV (frV x))) t) s) (fun _ o _ => (intOf o + 200).toNat)
  case atStart => exact ⟨0, _, _, Nat.zero_le _, rfl, rfl, rfl, rep_one⟩
  case round =>
    obtain ⟨t, q, s, ht, rfl, rfl, rfl, hp⟩ := hrel
    have hk := fe_rep (2 * (8 - (t : Int)) * (2 * (8 - (t : Int)) + 1))
    have m0 : 0 ≤ 2 * (8 - (t : Int)) * (2 * (8 - (t : Int)) + 1) := Int.mul_nonneg (by omega) (by omega)
    have m1 : 2 * (8 - (t : Int)) * (2 * (8 - (t : Int)) + 1) ≤ 16 * 17 := Int.mul_le_mul (by omega) (by omega) (by omega) (by omega)
    by_cases hlt : t < 8
    · have g3 : (1 : Int) ≤ 8 - (t : Int) := by omega
      go_wp2_with (refine wpList_ar rfl _ _ _ _ _ rfl rfl _ _ _ rfl rfl (by assumption) (by assumption) ?_; intro r n hr)
      go_roundw
      case rel => exact ⟨t + 1, _, _, by omega, rfl, by rw [show 8 - ((t + 1 : Nat) : Int) = 8 - (t : Int) - 1 by omega], rfl, hr⟩
      case measure => simp [intOf]; omega
    · obtain rfl : t = 8 := by omega
      go_wp2_with (refine wpList_ar rfl _ _ _ _ _ rfl rfl _ _ _ rfl rfl hz hp ?_; intro r n hr)
      go_ret
      exact ⟨_, rfl, rep_to (rep_neg hr) (sinV_yes hA), _, rfl⟩

set_option maxHeartbeats 2000000 in
theorem sines_tfp {x : Nat} (h : Rep .f64 (some x) x) (hb : Bd .f64 (some x) (52 + 1074)) (hN : (FloatKind.f64.format.order x 4841369599423283200 == some .gt || FloatKind.f64.format.order x 4841369599423283200 == some .eq) = false) (hN2 : (FloatKind.f64.format.order x 14064741636278059008 == some .lt || FloatKind.f64.format.order x 14064741636278059008 == some .eq) = false) (hF : cm .lss .f64 (ar .sub .f64 (some x) (some (fe (trI x)))) (some 0) = false) (hA : cm .geq .f64 (frV x) (some half6) = true) (hB : cm .gtr .f64 (f1V (frV x)) (some quart6) = false) (w : World) : Calls Try.prog 97 #[.float .f64 x] w fun e w' => ∃ r, e = .returned (.float .f64 r) ∧ Rep .f64 (sinV x) r ∧ ∃ n, w' = w.drewN n := by
  have hneg := run_neg6
  obtain ⟨hi, _⟩ := frac_bd hb
  have hcv := cv_int6 hi
  have hfe : ∀ n, floatOfInt .f64 n = fe n := fun _ => rfl
  have hft := fe_rep (trI x)
  have c0 := rep_z6
  have h00 := order_zero
  have c1 := rep_one
  have c2 := rep_two
  have c5 := rep_half
  have c6 := rep_quart
  have c7 := rep_turn
  go_enter Try.func97, Try.ntmps97
  go_wp2_with (first
    | (refine wpList_ar rfl _ _ _ _ _ rfl rfl _ _ _ rfl rfl h h ?_; intro rs ns hrs; obtain rfl := sub_self_is h hb hrs)
    | (refine wpList_ar rfl _ _ _ _ _ rfl rfl _ _ _ rfl rfl h hft ?_; intro r1 n1 hr0; have g0 := lss_isv hr0 c0 hF; have hr1 := rep_to hr0 (frV_no hF); have g1 := geq_isv hr1 c5 hA)
    | (refine wpList_ar rfl _ _ _ _ _ rfl rfl _ _ _ rfl rfl hr1 c5 ?_; intro r2 n2 hr2; have hg := rep_to hr2 (f1V_yes hA); have g2 := gtr_is hg c6 hB; have hf := rep_to hg (f2V_no hB))
    | (refine wpList_ar rfl _ _ _ _ _ rfl rfl _ _ _ rfl rfl hf c7 ?_; intro rz nz hz)
    | (refine wpList_ar rfl _ _ _ _ _ rfl rfl _ _ _ rfl rfl hz hz ?_; intro ru nu hu))
  have hz : Rep .f64 (zV (frV x)) rz := hz
  have hu : Rep .f64 (ar .mul .f64 (zV (frV x)) (zV (frV x))) ru := hu
  go_loopw [7, 8] (fun i o wr => ∃ (t q s : Nat), t ≤ 8 ∧ i = .float .f64 s ∧ o = .int .i64 (8 - (t : Int)) ∧ wr = w.drewN q ∧ Rep .f64 (pv (ar .mul .f64 (zV (frV x)) (zV (frV x))) t) s) (fun _ o _ => (intOf o + 200).toNat)
  case atStart => exact ⟨0, _, _, Nat.zero_le _, rfl, rfl, rfl, rep_one⟩
  case round =>
    obtain ⟨t, q, s, ht, rfl, rfl, rfl, hp⟩ := hrel
    have hk := fe_rep (2 * (8 - (t : Int)) * (2 * (8 - (t : Int)) + 1))
    have m0 : 0 ≤ 2 * (8 - (t : Int)) * (2 * (8 - (t : Int)) + 1) := Int.mul_nonneg (by omega) (by omega)
    have m1 : 2 * (8 - (t : Int)) * (2 * (8 - (t : Int)) + 1) ≤ 16 * 17 := Int.mul_le_mul (by omega) (by omega) (by omega) (by omega)
    by_cases hlt : t < 8
    · have g3 : (1 : Int) ≤ 8 - (t : Int) := by omega
      go_wp2_with (refine wpList_ar rfl _ _ _ _ _ rfl rfl _ _ _ rfl rfl (by assumption) (by assumption) ?_; intro r n hr)
      go_roundw
      case rel => exact ⟨t + 1, _, _, by omega, rfl, by rw [show 8 - ((t + 1 : Nat) : Int) = 8 - (t : Int) - 1 by omega], rfl, hr⟩
      case measure => simp [intOf]; omega
    · obtain rfl : t = 8 := by omega
      go_wp2_with (refine wpList_ar rfl _ _ _ _ _ rfl rfl _ _ _ rfl rfl hz hp ?_; intro r n hr)
      go_ret
      exact ⟨_, rfl, rep_to (rep_neg hr) (sinV_yes hA), _, rfl⟩

set_option maxHeartbeats 2000000 in
theorem sines_tfn {x : Nat} (h : Rep .f64 (some x) x) (hb : Bd .f64 (some x) (52 + 1074)) (hN : (FloatKind.f64.format.order x 4841369599423283200 == some .gt || FloatKind.f64.format.order x 4841369599423283200 == some .eq) = false) (hN2 : (FloatKind.f64.format.order x 14064741636278059008 == some .lt || FloatKind.f64.format.order x 14064741636278059008 == some .eq) = false) (hF : cm .lss .f64 (ar .sub .f64 (some x) (some (fe (trI x)))) (some 0) = true) (hA : cm .geq .f64 (frV x) (some half6) = true) (hB : cm .gtr .f64 (f1V (frV x)) (some quart6) = false) (w : World) : Calls Try.prog 97 #[.float .f64 x] w fun e w' => ∃ r, e = .returned (.float .f64 r) ∧ Rep .f64 (sinV x) r ∧ ∃ n, w' = w.drewN n := by
  have hneg := run_neg6
  obtain ⟨hi, _⟩ := frac_bd hb
  have hcv := cv_int6 hi
  have hfe : ∀ n, floatOfInt .f64 n = fe n := fun _ => rfl
  have hft := fe_rep (trI x)
  have c0 := rep_z6
  have h00 := order_zero
  have c1 := rep_one
  have c2 := rep_two
  have c5 := rep_half
  have c6 := rep_quart
  have c7 := rep_turn
  go_enter Try.func97, Try.ntmps97
  go_wp2_with (first
    | (refine wpList_ar rfl _ _ _ _ _ rfl rfl _ _ _ rfl rfl h h ?_; intro rs ns hrs; obtain rfl := sub_self_is h hb hrs)
    | (refine wpList_ar rfl _ _ _ _ _ rfl rfl _ _ _ rfl rfl h hft ?_; intro r0 n0 hr0; have g0 := lss_isv hr0 c0 hF)
    | (refine wpList_ar rfl _ _ _ _ _ rfl rfl _ _ _ rfl rfl hr0 c1 ?_; intro r1 n1 hr00; have hr1 := rep_to hr00 (frV_yes hF); have g1 := geq_isv hr1 c5 hA)
    | (refine wpList_ar rfl _ _ _ _ _ rfl rfl _ _ _ rfl rfl hr1 c5 ?_; intro r2 n2 hr2; have hg := rep_to hr2 (f1V_yes hA); have g2 := gtr_is hg c6 hB; have hf := rep_to hg (f2V_no hB))
    | (refine wpList_ar rfl _ _ _ _ _ rfl rfl _ _ _ rfl rfl hf c7 ?_; intro rz nz hz)
    | (refine wpList_ar rfl _ _ _ _ _ rfl rfl _ _ _ rfl rfl hz hz ?_; intro ru nu hu))
  have hz : Rep .f64 (zV (frV x)) rz := hz
  have hu : Rep .f64 (ar .mul .f64 (zV (frV x)) (zV (frV x))) ru := hu
  go_loopw [7, 8] (fun i o wr => ∃ (t q s : Nat), t ≤ 8 ∧ i = .float .f64 s ∧ o = .int .i64 (8 - (t : Int)) ∧ wr = w.drewN q ∧ Rep .f64 (pv (ar .mul .f64 (zV (frV x)) (zV (frV x))) t) s) (fun _ o _ => (intOf o + 200).toNat)
  case atStart => exact ⟨0, _, _, Nat.zero_le _, rfl, rfl, rfl, rep_one⟩
  case round =>
    obtain ⟨t, q, s, ht, rfl, rfl, rfl, hp⟩ := hrel
    have hk := fe_rep (2 * (8 - (t : Int)) * (2 * (8 - (t : Int)) + 1))
    have m0 : 0 ≤ 2 * (8 - (t : Int)) * (2 * (8 - (t : Int)) + 1) := Int.mul_nonneg (by omega) (by omega)
    have m1 : 2 * (8 - (t : Int)) * (2 * (8 - (t : Int)) + 1) ≤ 16 * 17 := Int.mul_le_mul (by omega) (by omega) (by omega) (by omega)
    by_cases hlt : t < 8
    · have g3 : (1 : Int) ≤ 8 - (t : Int) := by omega
      go_wp2_with (refine wpList_ar rfl _ _ _ _ _ rfl rfl _ _ _ rfl rfl (by assumption) (by assumption) ?_; intro r n hr)
      go_roundw
      case rel => exact ⟨t + 1, _, _, by omega, rfl, by rw [show 8 - ((t + 1 : Nat) : Int) = 8 - (t : Int) - 1 by omega], rfl, hr⟩
      case measure => simp [intOf]; omega
    · obtain rfl : t = 8 := by omega
      go_wp2_with (refine wpList_ar rfl _ _ _ _ _ rfl rfl _ _ _ rfl rfl hz hp ?_; intro r n hr)
      go_ret
      exact ⟨_, rfl, rep_to (rep_neg hr) (sinV_yes hA), _, rfl⟩

set_option maxHeartbeats 2000000 in
theorem sines_ftp {x : Nat} (h : Rep .f64 (some x) x) (hb : Bd .f64 (some x) (52 + 1074)) (hN : (FloatKind.f64.format.order x 4841369599423283200 == some .gt || FloatKind.f64.format.order x 4841369599423283200 == some .eq) = false) (hN2 : (FloatKind.f64.format.order x 14064741636278059008 == some .lt || FloatKind.f64.format.order x 14064741636278059008 == some .eq) = false) (hF : cm .lss .f64 (ar .sub .f64 (some x) (some (fe (trI x)))) (some 0) = false) (hA : cm .geq .f64 (frV x) (some half6) = false) (hB : cm .gtr .f64 (f1V (frV x)) (some quart6) = true) (w : World) : Calls Try.prog 97 #[.float .f64 x] w fun e w' => ∃ r, e = .returned (.float .f64 r) ∧ Rep .f64 (sinV x) r ∧ ∃ n, w' = w.drewN n := by
  have hneg := run_neg6
  obtain ⟨hi, _⟩ := frac_bd hb
  have hcv := cv_int6 hi
  have hfe : ∀ n, floatOfInt .f64 n = fe n := fun _ => rfl
  have hft := fe_rep (trI x)
  have c0 := rep_z6
  have h00 := order_zero
  have c1 := rep_one
  have c2 := rep_two
  have c5 := rep_half
  have c6 := rep_quart
  have c7 := rep_turn
  go_enter Try.func97, Try.ntmps97
  go_wp2_with (first
    | (refine wpList_ar rfl _ _ _ _ _ rfl rfl _ _ _ rfl rfl h h ?_; intro rs ns hrs; obtain rfl := sub_self_is h hb hrs)
    | (refine wpList_ar rfl _ _ _ _ _ rfl rfl _ _ _ rfl rfl h hft ?_; intro r1 n1 hr0; have g0 := lss_isv hr0 c0 hF; have hr1 := rep_to hr0 (frV_no hF); have g1 := geq_isv hr1 c5 hA; have hg := rep_to hr1 (f1V_no hA); have g2 := gtr_is hg c6 hB)
    | (refine wpList_ar rfl _ _ _ _ _ rfl rfl _ _ _ rfl rfl c5 hg ?_; intro r3 n3 hr3; have hf := rep_to hr3 (f2V_yes hB))
    | (refine wpList_ar rfl _ _ _ _ _ rfl rfl _ _ _ rfl rfl hf c7 ?_; intro rz nz hz)
    | (refine wpList_ar rfl _ _ _ _ _ rfl rfl _ _ _ rfl rfl hz hz ?_; intro ru nu hu))
  have hz : Rep .f64 (zV (frV x)) rz := hz
  have hu : Rep .f64 (ar .mul .f64 (zV (frV x)) (zV (frV x))) ru := hu
  go_loopw [7, 8] (fun i o wr => ∃ (t q s : Nat), t ≤ 8 ∧ i = .float .f64 s ∧ o = .int .i64 (8 - (t : Int)) ∧ wr = w.drewN q ∧ Rep .f64 (pv (ar .mul .f64 (zV (frV x)) (zV (frV x))) t) s) (fun _ o _ => (intOf o + 200).toNat)
  case atStart => exact ⟨0, _, _, Nat.zero_le _, rfl, rfl, rfl, rep_one⟩
  case round =>
    obtain ⟨t, q, s, ht, rfl, rfl, rfl, hp⟩ := hrel
    have hk := fe_rep (2 * (8 - (t : Int)) * (2 * (8 - (t : Int)) + 1))
    have m0 : 0 ≤ 2 * (8 - (t : Int)) * (2 * (8 - (t : Int)) + 1) := Int.mul_nonneg (by omega) (by omega)
    have m1 : 2 * (8 - (t : Int)) * (2 * (8 - (t : Int)) + 1) ≤ 16 * 17 := Int.mul_le_mul (by omega) (by omega) (by omega) (by omega)
    by_cases hlt : t < 8
    · have g3 : (1 : Int) ≤ 8 - (t : Int) := by omega
      go_wp2_with (refine wpList_ar rfl _ _ _ _ _ rfl rfl _ _ _ rfl rfl (by assumption) (by assumption) ?_; intro r n hr)
      go_roundw
      case rel => exact ⟨t + 1, _, _, by omega, rfl, by rw [show 8 - ((t + 1 : Nat) : Int) = 8 - (t : Int) - 1 by omega], rfl, hr⟩
      case measure => simp [intOf]; omega
    · obtain rfl : t = 8 := by omega
      go_wp2_with (refine wpList_ar rfl _ _ _ _ _ rfl rfl _ _ _ rfl rfl hz hp ?_; intro r n hr)
      go_ret
      exact ⟨_, rfl, rep_to hr (sinV_no hA), _, rfl⟩

set_option maxHeartbeats 2000000 in
theorem sines_ftn {x : Nat} (h : Rep .f64 (some x) x) (hb : Bd .f64 (some x) (52 + 1074)) (hN : (FloatKind.f64.format.order x 4841369599423283200 == some .gt || FloatKind.f64.format.order x 4841369599423283200 == some .eq) = false) (hN2 : (FloatKind.f64.format.order x 14064741636278059008 == some .lt || FloatKind.f64.format.order x 14064741636278059008 == some .eq) = false) (hF : cm .lss .f64 (ar .sub .f64 (some x) (some (fe (trI x)))) (some 0) = true) (hA : cm .geq .f64 (frV x) (some half6) = false) (hB : cm .gtr .f64 (f1V (frV x)) (some quart6) = true) (w : World) : Calls Try.prog 97 #[.float .f64 x] w fun e w' => ∃ r, e = .returned (.float .f64 r) ∧ Rep .f64 (sinV x) r ∧ ∃ n, w' = w.drewN n := by
  have hneg := run_neg6
  obtain ⟨hi, _⟩ := frac_bd hb
  have hcv := cv_int6 hi
  have hfe : ∀ n, floatOfInt .f64 n = fe n := fun _ => rfl
  have hft := fe_rep (trI x)
  have c0 := rep_z6
  have h00 := order_zero
  have c1 := rep_one
  have c2 := rep_two
  have c5 := rep_half
  have c6 := rep_quart
  have c7 := rep_turn
  go_enter Try.func97, Try.ntmps97
  go_wp2_with (first
    | (refine wpList_ar rfl _ _ _ _ _ rfl rfl _ _ _ rfl rfl h h ?_; intro rs ns hrs; obtain rfl := sub_self_is h hb hrs)
    | (refine wpList_ar rfl _ _ _ _ _ rfl rfl _ _ _ rfl rfl h hft ?_; intro r0 n0 hr0; have g0 := lss_isv hr0 c0 hF)
    | (refine wpList_ar rfl _ _ _ _ _ rfl rfl _ _ _ rfl rfl hr0 c1 ?_; intro r1 n1 hr00; have hr1 := rep_to hr00 (frV_yes hF); have g1 := geq_isv hr1 c5 hA; have hg := rep_to hr1 (f1V_no hA); have g2 := gtr_is hg c6 hB)
    | (refine wpList_ar rfl _ _ _ _ _ rfl rfl _ _ _ rfl rfl c5 hg ?_; intro r3 n3 hr3; have hf := rep_to hr3 (f2V_yes hB))
    | (refine wpList_ar rfl _ _ _ _ _ rfl rfl _ _ _ rfl rfl hf c7 ?_; intro rz nz hz)
    | (refine wpList_ar rfl _ _ _ _ _ rfl rfl _ _ _ rfl rfl hz hz ?_; intro ru nu hu))
  have hz : Rep .f64 (zV (frV x)) rz := hz
  have hu : Rep .f64 (ar .mul .f64 (zV (frV x)) (zV (frV x))) ru := hu
  go_loopw [7, 8] (fun i o wr => ∃ (t q s : Nat), t ≤ 8 ∧ i = .float .f64 s ∧ o = .int .i64 (8 - (t : Int)) ∧ wr = w.drewN q ∧ Rep .f64 (pv (ar .mul .f64 (zV (frV x)) (zV (frV x))) t) s) (fun _ o _ => (intOf o + 200).toNat)
  case atStart => exact ⟨0, _, _, Nat.zero_le _, rfl, rfl, rfl, rep_one⟩
  case round =>
    obtain ⟨t, q, s, ht, rfl, rfl, rfl, hp⟩ := hrel
    have hk := fe_rep (2 * (8 - (t : Int)) * (2 * (8 - (t : Int)) + 1))
    have m0 : 0 ≤ 2 * (8 - (t : Int)) * (2 * (8 - (t : Int)) + 1) := Int.mul_nonneg (by omega) (by omega)
    have m1 : 2 * (8 - (t : Int)) * (2 * (8 - (t : Int)) + 1) ≤ 16 * 17 := Int.mul_le_mul (by omega) (by omega) (by omega) (by omega)
    by_cases hlt : t < 8
    · have g3 : (1 : Int) ≤ 8 - (t : Int) := by omega
      go_wp2_with (refine wpList_ar rfl _ _ _ _ _ rfl rfl _ _ _ rfl rfl (by assumption) (by assumption) ?_; intro r n hr)
      go_roundw
      case rel => exact ⟨t + 1, _, _, by omega, rfl, by rw [show 8 - ((t + 1 : Nat) : Int) = 8 - (t : Int) - 1 by omega], rfl, hr⟩
      case measure => simp [intOf]; omega
    · obtain rfl : t = 8 := by omega
      go_wp2_with (refine wpList_ar rfl _ _ _ _ _ rfl rfl _ _ _ rfl rfl hz hp ?_; intro r n hr)
      go_ret
      exact ⟨_, rfl, rep_to hr (sinV_no hA), _, rfl⟩

set_option maxHeartbeats 2000000 in
theorem sines_ffp {x : Nat} (h : Rep .f64 (some x) x) (hb : Bd .f64 (some x) (52 + 1074)) (hN : (FloatKind.f64.format.order x 4841369599423283200 == some .gt || FloatKind.f64.format.order x 4841369599423283200 == some .eq) = false) (hN2 : (FloatKind.f64.format.order x 14064741636278059008 == some .lt || FloatKind.f64.format.order x 14064741636278059008 == some .eq) = false) (hF : cm .lss .f64 (ar .sub .f64 (some x) (some (fe (trI x)))) (some 0) = false) (hA : cm .geq .f64 (frV x) (some half6) = false) (hB : cm .gtr .f64 (f1V (frV x)) (some quart6) = false) (w : World) : Calls Try.prog 97 #[.float .f64 x] w fun e w' => ∃ r, e = .returned (.float .f64 r) ∧ Rep .f64 (sinV x) r ∧ ∃ n, w' = w.drewN n := by
  have hneg := run_neg6
  obtain ⟨hi, _⟩ := frac_bd hb
  have hcv := cv_int6 hi
  have hfe : ∀ n, floatOfInt .f64 n = fe n := fun _ => rfl
  have hft := fe_rep (trI x)
  have c0 := rep_z6
  have h00 := order_zero
  have c1 := rep_one
  have c2 := rep_two
  have c5 := rep_half
  have c6 := rep_quart
  have c7 := rep_turn
  go_enter Try.func97, Try.ntmps97
  go_wp2_with (first
    | (refine wpList_ar rfl _ _ _ _ _ rfl rfl _ _ _ rfl rfl h h ?_; intro rs ns hrs; obtain rfl := sub_self_is h hb hrs)
    | (refine wpList_ar rfl _ _ _ _ _ rfl rfl _ _ _ rfl rfl h hft ?_; intro r1 n1 hr0; have g0 := lss_isv hr0 c0 hF; have hr1 := rep_to hr0 (frV_no hF); have g1 := geq_isv hr1 c5 hA; have hg := rep_to hr1 (f1V_no hA); have g2 := gtr_is hg c6 hB; have hf := rep_to hg (f2V_no hB))
    | (refine wpList_ar rfl _ _ _ _ _ rfl rfl _ _ _ rfl rfl hf c7 ?_; intro rz nz hz)
    | (refine wpList_ar rfl _ _ _ _ _ rfl rfl _ _ _ rfl rfl hz hz ?_; intro ru nu hu))
  have hz : Rep .f64 (zV (frV x)) rz := hz
  have hu : Rep .f64 (ar .mul .f64 (zV (frV x)) (zV (frV x))) ru := hu
  go_loopw [7, 8] (fun i o wr => ∃ (t q s : Nat), t ≤ 8 ∧ i = .float .f64 s ∧ o = .int .i64 (8 - (t : Int)) ∧ wr = w.drewN q ∧ Rep .f64 (pv (ar .mul .f64 (zV (frV x)) (zV (frV x))) t) s) (fun _ o _ => (intOf o + 200).toNat)
  case atStart => exact ⟨0, _, _, Nat.zero_le _, rfl, rfl, rfl, rep_one⟩
  case round =>
    obtain ⟨t, q, s, ht, rfl, rfl, rfl, hp⟩ := hrel
    have hk := fe_rep (2 * (8 - (t : Int)) * (2 * (8 - (t : Int)) + 1))
    have m0 : 0 ≤ 2 * (8 - (t : Int)) * (2 * (8 - (t : Int)) + 1) := Int.mul_nonneg (by omega) (by omega)
    have m1 : 2 * (8 - (t : Int)) * (2 * (8 - (t : Int)) + 1) ≤ 16 * 17 := Int.mul_le_mul (by omega) (by omega) (by omega) (by omega)
    by_cases hlt : t < 8
    · have g3 : (1 : Int) ≤ 8 - (t : Int) := by omega
      go_wp2_with (refine wpList_ar rfl _ _ _ _ _ rfl rfl _ _ _ rfl rfl (by assumption) (by assumption) ?_; intro r n hr)
      go_roundw
      case rel => exact ⟨t + 1, _, _, by omega, rfl, by rw [show 8 - ((t + 1 : Nat) : Int) = 8 - (t : Int) - 1 by omega], rfl, hr⟩
      case measure => simp [intOf]; omega
    · obtain rfl : t = 8 := by omega
      go_wp2_with (refine wpList_ar rfl _ _ _ _ _ rfl rfl _ _ _ rfl rfl hz hp ?_; intro r n hr)
      go_ret
      exact ⟨_, rfl, rep_to hr (sinV_no hA), _, rfl⟩

set_option maxHeartbeats 2000000 in
theorem sines_ffn {x : Nat} (h : Rep .f64 (some x) x) (hb : Bd .f64 (some x) (52 + 1074)) (hN : (FloatKind.f64.format.order x 4841369599423283200 == some .gt || FloatKind.f64.format.order x 4841369599423283200 == some .eq) = false) (hN2 : (FloatKind.f64.format.order x 14064741636278059008 == some .lt || FloatKind.f64.format.order x 14064741636278059008 == some .eq) = false) (hF : cm .lss .f64 (ar .sub .f64 (some x) (some (fe (trI x)))) (some 0) = true) (hA : cm .geq .f64 (frV x) (some half6) = false) (hB : cm .gtr .f64 (f1V (frV x)) (some quart6) = false) (w : World) : Calls Try.prog 97 #[.float .f64 x] w fun e w' => ∃ r, e = .returned (.float .f64 r) ∧ Rep .f64 (sinV x) r ∧ ∃ n, w' = w.drewN n := by
  have hneg := run_neg6
  obtain ⟨hi, _⟩ := frac_bd hb
  have hcv := cv_int6 hi
  have hfe : ∀ n, floatOfInt .f64 n = fe n := fun _ => rfl
  have hft := fe_rep (trI x)
  have c0 := rep_z6
  have h00 := order_zero
  have c1 := rep_one
  have c2 := rep_two
  have c5 := rep_half
  have c6 := rep_quart
  have c7 := rep_turn
  go_enter Try.func97, Try.ntmps97
  go_wp2_with (first
    | (refine wpList_ar rfl _ _ _ _ _ rfl rfl _ _ _ rfl rfl h h ?_; intro rs ns hrs; obtain rfl := sub_self_is h hb hrs)
    | (refine wpList_ar rfl _ _ _ _ _ rfl rfl _ _ _ rfl rfl h hft ?_; intro r0 n0 hr0; have g0 := lss_isv hr0 c0 hF)
    | (refine wpList_ar rfl _ _ _ _ _ rfl rfl _ _ _ rfl rfl hr0 c1 ?_; intro r1 n1 hr00; have hr1 := rep_to hr00 (frV_yes hF); have g1 := geq_isv hr1 c5 hA; have hg := rep_to hr1 (f1V_no hA); have g2 := gtr_is hg c6 hB; have hf := rep_to hg (f2V_no hB))
    | (refine wpList_ar rfl _ _ _ _ _ rfl rfl _ _ _ rfl rfl hf c7 ?_; intro rz nz hz)
    | (refine wpList_ar rfl _ _ _ _ _ rfl rfl _ _ _ rfl rfl hz hz ?_; intro ru nu hu))
  have hz : Rep .f64 (zV (frV x)) rz := hz
  have hu : Rep .f64 (ar .mul .f64 (zV (frV x)) (zV (frV x))) ru := hu
  go_loopw [7, 8] (fun i o wr => ∃ (t q s : Nat), t ≤ 8 ∧ i = .float .f64 s ∧ o = .int .i64 (8 - (t : Int)) ∧ wr = w.drewN q ∧ Rep .f64 (pv (ar .mul .f64 (zV (frV x)) (zV (frV x))) t) s) (fun _ o _ => (intOf o + 200).toNat)
  case atStart => exact ⟨0, _, _, Nat.zero_le _, rfl, rfl, rfl, rep_one⟩
  case round =>
    obtain ⟨t, q, s, ht, rfl, rfl, rfl, hp⟩ := hrel
    have hk := fe_rep (2 * (8 - (t : Int)) * (2 * (8 - (t : Int)) + 1))
    have m0 : 0 ≤ 2 * (8 - (t : Int)) * (2 * (8 - (t : Int)) + 1) := Int.mul_nonneg (by omega) (by omega)
    have m1 : 2 * (8 - (t : Int)) * (2 * (8 - (t : Int)) + 1) ≤ 16 * 17 := Int.mul_le_mul (by omega) (by omega) (by omega) (by omega)
    by_cases hlt : t < 8
    · have g3 : (1 : Int) ≤ 8 - (t : Int) := by omega
      go_wp2_with (refine wpList_ar rfl _ _ _ _ _ rfl rfl _ _ _ rfl rfl (by assumption) (by assumption) ?_; intro r n hr)
      go_roundw
      case rel => exact ⟨t + 1, _, _, by omega, rfl, by rw [show 8 - ((t + 1 : Nat) : Int) = 8 - (t : Int) - 1 by omega], rfl, hr⟩
      case measure => simp [intOf]; omega
    · obtain rfl : t = 8 := by omega
      go_wp2_with (refine wpList_ar rfl _ _ _ _ _ rfl rfl _ _ _ rfl rfl hz hp ?_; intro r n hr)
      go_ret
      exact ⟨_, rfl, rep_to hr (sinV_no hA), _, rfl⟩

theorem sine_spec {x : Nat} (h : Rep .f64 (some x) x) (hb : Bd .f64 (some x) (52 + 1074)) (hN : (FloatKind.f64.format.order x 4841369599423283200 == some .gt || FloatKind.f64.format.order x 4841369599423283200 == some .eq) = false) (hN2 : (FloatKind.f64.format.order x 14064741636278059008 == some .lt || FloatKind.f64.format.order x 14064741636278059008 == some .eq) = false) (w : World) :
    Calls Try.prog 97 #[.float .f64 x] w fun e w' => ∃ r, e = .returned (.float .f64 r) ∧ Rep .f64 (sinV x) r ∧ ∃ n, w' = w.drewN n := by
  cases hF : cm .lss .f64 (ar .sub .f64 (some x) (some (fe (trI x)))) (some 0) <;> cases hA : cm .geq .f64 (frV x) (some half6) <;> cases hB : cm .gtr .f64 (f1V (frV x)) (some quart6)
  · exact sines_ffp h hb hN hN2 hF hA hB w
  · exact sines_ftp h hb hN hN2 hF hA hB w
  · exact sines_tfp h hb hN hN2 hF hA hB w
  · exact sines_ttp h hb hN hN2 hF hA hB w
  · exact sines_ffn h hb hN hN2 hF hA hB w
  · exact sines_ftn h hb hN hN2 hF hA hB w
  · exact sines_tfn h hb hN hN2 hF hA hB w
  · exact sines_ttn h hb hN hN2 hF hA hB w
end Go.Proofs.Ytpebdcimbdbbmaa
