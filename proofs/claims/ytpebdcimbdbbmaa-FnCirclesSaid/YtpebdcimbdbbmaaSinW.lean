/-
  The sine: the program's functions. Conditions: a number that is not too great.
-/
import Derived.Test.YtpebdcimbdbbmaaSin
namespace Go.Proofs.Ytpebdcimbdbbmaa
open Go.RowKit Flo

theorem rep_half : Rep .f64 (some 4602678819172646912) 4602678819172646912 := rep_lit _ _ (by decide +kernel)
theorem rep_quart : Rep .f64 (some 4598175219545276416) 4598175219545276416 := rep_lit _ _ (by decide +kernel)
theorem rep_turn : Rep .f64 (some 4618760256179416344) 4618760256179416344 := rep_lit _ _ (by decide +kernel)
theorem gtr_is {v : Option Nat} {x c : Nat} {t : Bool} (hx : Rep .f64 v x) (hc : Rep .f64 (some c) c) (h : cm .gtr .f64 v (some c) = t) : (FloatKind.f64.format.order x c == some .gt) = t := by
  rw [ord_of hx hc]; exact h
theorem geq_isv {v : Option Nat} {x c : Nat} {t : Bool} (hx : Rep .f64 v x) (hc : Rep .f64 (some c) c) (h : cm .geq .f64 v (some c) = t) : (FloatKind.f64.format.order x c == some .gt || FloatKind.f64.format.order x c == some .eq) = t := by
  rw [ord_of hx hc]; exact h
theorem lss_isv {v : Option Nat} {x c : Nat} {t : Bool} (hx : Rep .f64 v x) (hc : Rep .f64 (some c) c) (h : cm .lss .f64 v (some c) = t) : (FloatKind.f64.format.order x c == some .lt) = t := by
  rw [ord_of hx hc]; exact h

theorem fr_impl {x : Nat} (h : Rep .f64 (some x) x) (hb : Bd .f64 (some x) (52 + 1074)) (w : World) : Calls Try.prog 83 #[.float .f64 x] w fun e w' => ∃ r, e = .returned (.float .f64 r) ∧ Rep .f64 (frV x) r ∧ ∃ n, w' = w.drewN n := by
  obtain ⟨hi, _⟩ := frac_bd hb
  have hcv := cv_int6 hi
  have hfe : ∀ n, floatOfInt .f64 n = fe n := fun _ => rfl
  have hft := fe_rep (trI x)
  have c0 := rep_z6
  have c1 := rep_one
  cases hc : cm .lss .f64 (ar .sub .f64 (some x) (some (fe (trI x)))) (some 0)
  · have HV := Lib.hid (show frV x = ar .sub .f64 (some x) (some (fe (trI x))) by unfold frV; rw [hc]; rfl)
    go_enter Try.func83, Try.ntmps83
    go_wp2_with (refine wpList_ar rfl _ _ _ _ _ rfl rfl _ _ _ rfl rfl h hft ?_; intro r n hr; have g1 := lss_isv hr c0 hc)
    go_ret
    exact ⟨_, rfl, by rw [HV.out]; assumption, _, rfl⟩
  · have HV := Lib.hid (show frV x = ar .add .f64 (ar .sub .f64 (some x) (some (fe (trI x)))) (some one6) by unfold frV; rw [hc]; rfl)
    go_enter Try.func83, Try.ntmps83
    go_wp2_with (first
      | (refine wpList_ar rfl _ _ _ _ _ rfl rfl _ _ _ rfl rfl h hft ?_; intro r n hr; have g1 := lss_isv hr c0 hc)
      | (refine wpList_ar rfl _ _ _ _ _ rfl rfl _ _ _ rfl rfl hr c1 ?_; intro r2 n2 hr2))
    go_ret
    exact ⟨_, rfl, by rw [HV.out]; assumption, _, rfl⟩

theorem f1V_yes {f : Option Nat} (h : cm .geq .f64 f (some half6) = true) : f1V f = ar .sub .f64 f (some half6) := by unfold f1V; rw [if_pos h]
theorem f1V_no {f : Option Nat} (h : cm .geq .f64 f (some half6) = false) : f1V f = f := by unfold f1V; rw [h]; rfl
theorem f2V_yes {f : Option Nat} (h : cm .gtr .f64 f (some quart6) = true) : f2V f = ar .sub .f64 (some half6) f := by unfold f2V; rw [if_pos h]
theorem f2V_no {f : Option Nat} (h : cm .gtr .f64 f (some quart6) = false) : f2V f = f := by unfold f2V; rw [h]; rfl
theorem rep_to {v u : Option Nat} {r : Nat} (h : Rep .f64 v r) (e : u = v) : Rep .f64 u r := by rw [e]; exact h
theorem sinV_yes {x : Nat} (h : cm .geq .f64 (frV x) (some half6) = true) : sinV x = (snV (frV x)).map (Op.negFloat .f64) := by unfold sinV; rw [if_pos h]
theorem sinV_no {x : Nat} (h : cm .geq .f64 (frV x) (some half6) = false) : sinV x = snV (frV x) := by unfold sinV; rw [h]; rfl
theorem run_neg6 (b : Nat) (w : World) : (Op.unary .neg (.float .f64 b)).run Try.prog w = .ok (.float .f64 (Op.negFloat .f64 b)) w := rfl
theorem fe_eight : fe (8 - ((0 : Nat) : Int)) = 4620693217682128896 := by decide +kernel

set_option maxHeartbeats 2000000 in
theorem sine_tt {x : Nat} (h : Rep .f64 (some x) x) (hb : Bd .f64 (some x) (52 + 1074)) (hA : cm .geq .f64 (frV x) (some half6) = true) (hB : cm .gtr .f64 (f1V (frV x)) (some quart6) = true) (w : World) : Calls Try.prog 77 #[.float .f64 x] w fun e w' => ∃ r, e = .returned (.float .f64 r) ∧ Rep .f64 (sinV x) r ∧ ∃ n, w' = w.drewN n := by
  have hneg := run_neg6
  have c1 := rep_one
  have c2 := rep_two
  have c5 := rep_half
  have c6 := rep_quart
  have c7 := rep_turn
  go_enter Try.func77, Try.ntmps77
  go_wp2_with (first
    | (go_at_call 83; refine (fr_impl h hb _).mono ?_; rintro e w' ⟨r1, rfl, hr1, n1, rfl⟩; have g1 := geq_isv hr1 c5 hA)
    | (refine wpList_ar rfl _ _ _ _ _ rfl rfl _ _ _ rfl rfl hr1 c5 ?_; intro r2 n2 hr2; have hg := rep_to hr2 (f1V_yes hA); have g2 := gtr_is hg c6 hB)
    | (refine wpList_ar rfl _ _ _ _ _ rfl rfl _ _ _ rfl rfl c5 hg ?_; intro r3 n3 hr3; have hf := rep_to hr3 (f2V_yes hB))
    | (refine wpList_ar rfl _ _ _ _ _ rfl rfl _ _ _ rfl rfl hf c7 ?_; intro rz nz hz)
    | (refine wpList_ar rfl _ _ _ _ _ rfl rfl _ _ _ rfl rfl hz hz ?_; intro ru nu hu))
  have hz : Rep .f64 (zV (frV x)) rz := hz
  have hu : Rep .f64 (ar .mul .f64 (zV (frV x)) (zV (frV x))) ru := hu
  go_loopw [7, 8] (fun i o wr => ∃ (t q s : Nat), t ≤ 8 ∧ i = .float .f64 s ∧ o = .float .f64 (fe (8 - (t : Int))) ∧ wr = w.drewN q ∧ Rep .f64 (pv (ar .mul .f64 (zV (frV x)) (zV (frV x))) t) s) (fun _ o _ => (eOf o + 200).toNat)
  case atStart => exact ⟨0, _, _, Nat.zero_le _, rfl, by rw [fe_eight], rfl, rep_one⟩
  case round =>
    obtain ⟨t, q, s, ht, rfl, rfl, rfl, hp⟩ := hrel
    have hk := fe_rep (8 - (t : Int))
    by_cases hlt : t < 8
    · have g3 := geq_is hk c1 ((fe_k8 t (by omega)).trans (decide_eq_true hlt))
      go_wp2_with (refine wpList_ar rfl _ _ _ _ _ rfl rfl _ _ _ rfl rfl (by assumption) (by assumption) ?_; intro r n hr)
      rename_i r4 n4 hr4
      rw [den_k t hlt] at hr4
      obtain rfl := fe_is hr (fe_d8 t hlt)
      have e1 := eOf_fe (8 - ((t + 1 : Nat) : Int)) (by omega) (by omega)
      have e2 := eOf_fe (8 - (t : Int)) (by omega) (by omega)
      go_roundw
      case rel => exact ⟨t + 1, _, _, by omega, rfl, rfl, rfl, hr4⟩
      case measure => rw [e1, e2]; omega
    · have g3 := geq_is hk c1 ((fe_k8 t (by omega)).trans (decide_eq_false hlt))
      obtain rfl : t = 8 := by omega
      go_wp2_with (refine wpList_ar rfl _ _ _ _ _ rfl rfl _ _ _ rfl rfl hz hp ?_; intro r n hr)
      go_ret
      exact ⟨_, rfl, rep_to (rep_neg hr) (sinV_yes hA), _, rfl⟩

set_option maxHeartbeats 2000000 in
theorem sine_tf {x : Nat} (h : Rep .f64 (some x) x) (hb : Bd .f64 (some x) (52 + 1074)) (hA : cm .geq .f64 (frV x) (some half6) = true) (hB : cm .gtr .f64 (f1V (frV x)) (some quart6) = false) (w : World) : Calls Try.prog 77 #[.float .f64 x] w fun e w' => ∃ r, e = .returned (.float .f64 r) ∧ Rep .f64 (sinV x) r ∧ ∃ n, w' = w.drewN n := by
  have hneg := run_neg6
  have c1 := rep_one
  have c2 := rep_two
  have c5 := rep_half
  have c6 := rep_quart
  have c7 := rep_turn
  go_enter Try.func77, Try.ntmps77
  go_wp2_with (first
    | (go_at_call 83; refine (fr_impl h hb _).mono ?_; rintro e w' ⟨r1, rfl, hr1, n1, rfl⟩; have g1 := geq_isv hr1 c5 hA)
    | (refine wpList_ar rfl _ _ _ _ _ rfl rfl _ _ _ rfl rfl hr1 c5 ?_; intro r2 n2 hr2; have hg := rep_to hr2 (f1V_yes hA); have g2 := gtr_is hg c6 hB; have hf := rep_to hg (f2V_no hB))
    | (refine wpList_ar rfl _ _ _ _ _ rfl rfl _ _ _ rfl rfl hf c7 ?_; intro rz nz hz)
    | (refine wpList_ar rfl _ _ _ _ _ rfl rfl _ _ _ rfl rfl hz hz ?_; intro ru nu hu))
  have hz : Rep .f64 (zV (frV x)) rz := hz
  have hu : Rep .f64 (ar .mul .f64 (zV (frV x)) (zV (frV x))) ru := hu
  go_loopw [7, 8] (fun i o wr => ∃ (t q s : Nat), t ≤ 8 ∧ i = .float .f64 s ∧ o = .float .f64 (fe (8 - (t : Int))) ∧ wr = w.drewN q ∧ Rep .f64 (pv (ar .mul .f64 (zV (frV x)) (zV (frV x))) t) s) (fun _ o _ => (eOf o + 200).toNat)
  case atStart => exact ⟨0, _, _, Nat.zero_le _, rfl, by rw [fe_eight], rfl, rep_one⟩
  case round =>
    obtain ⟨t, q, s, ht, rfl, rfl, rfl, hp⟩ := hrel
    have hk := fe_rep (8 - (t : Int))
    by_cases hlt : t < 8
    · have g3 := geq_is hk c1 ((fe_k8 t (by omega)).trans (decide_eq_true hlt))
      go_wp2_with (refine wpList_ar rfl _ _ _ _ _ rfl rfl _ _ _ rfl rfl (by assumption) (by assumption) ?_; intro r n hr)
      rename_i r4 n4 hr4
      rw [den_k t hlt] at hr4
      obtain rfl := fe_is hr (fe_d8 t hlt)
      have e1 := eOf_fe (8 - ((t + 1 : Nat) : Int)) (by omega) (by omega)
      have e2 := eOf_fe (8 - (t : Int)) (by omega) (by omega)
      go_roundw
      case rel => exact ⟨t + 1, _, _, by omega, rfl, rfl, rfl, hr4⟩
      case measure => rw [e1, e2]; omega
    · have g3 := geq_is hk c1 ((fe_k8 t (by omega)).trans (decide_eq_false hlt))
      obtain rfl : t = 8 := by omega
      go_wp2_with (refine wpList_ar rfl _ _ _ _ _ rfl rfl _ _ _ rfl rfl hz hp ?_; intro r n hr)
      go_ret
      exact ⟨_, rfl, rep_to (rep_neg hr) (sinV_yes hA), _, rfl⟩

set_option maxHeartbeats 2000000 in
theorem sine_ft {x : Nat} (h : Rep .f64 (some x) x) (hb : Bd .f64 (some x) (52 + 1074)) (hA : cm .geq .f64 (frV x) (some half6) = false) (hB : cm .gtr .f64 (f1V (frV x)) (some quart6) = true) (w : World) : Calls Try.prog 77 #[.float .f64 x] w fun e w' => ∃ r, e = .returned (.float .f64 r) ∧ Rep .f64 (sinV x) r ∧ ∃ n, w' = w.drewN n := by
  have hneg := run_neg6
  have c1 := rep_one
  have c2 := rep_two
  have c5 := rep_half
  have c6 := rep_quart
  have c7 := rep_turn
  go_enter Try.func77, Try.ntmps77
  go_wp2_with (first
    | (go_at_call 83; refine (fr_impl h hb _).mono ?_; rintro e w' ⟨r1, rfl, hr1, n1, rfl⟩; have g1 := geq_isv hr1 c5 hA; have hg := rep_to hr1 (f1V_no hA); have g2 := gtr_is hg c6 hB)
    | (refine wpList_ar rfl _ _ _ _ _ rfl rfl _ _ _ rfl rfl c5 hg ?_; intro r3 n3 hr3; have hf := rep_to hr3 (f2V_yes hB))
    | (refine wpList_ar rfl _ _ _ _ _ rfl rfl _ _ _ rfl rfl hf c7 ?_; intro rz nz hz)
    | (refine wpList_ar rfl _ _ _ _ _ rfl rfl _ _ _ rfl rfl hz hz ?_; intro ru nu hu))
  have hz : Rep .f64 (zV (frV x)) rz := hz
  have hu : Rep .f64 (ar .mul .f64 (zV (frV x)) (zV (frV x))) ru := hu
  go_loopw [7, 8] (fun i o wr => ∃ (t q s : Nat), t ≤ 8 ∧ i = .float .f64 s ∧ o = .float .f64 (fe (8 - (t : Int))) ∧ wr = w.drewN q ∧ Rep .f64 (pv (ar .mul .f64 (zV (frV x)) (zV (frV x))) t) s) (fun _ o _ => (eOf o + 200).toNat)
  case atStart => exact ⟨0, _, _, Nat.zero_le _, rfl, by rw [fe_eight], rfl, rep_one⟩
  case round =>
    obtain ⟨t, q, s, ht, rfl, rfl, rfl, hp⟩ := hrel
    have hk := fe_rep (8 - (t : Int))
    by_cases hlt : t < 8
    · have g3 := geq_is hk c1 ((fe_k8 t (by omega)).trans (decide_eq_true hlt))
      go_wp2_with (refine wpList_ar rfl _ _ _ _ _ rfl rfl _ _ _ rfl rfl (by assumption) (by assumption) ?_; intro r n hr)
      rename_i r4 n4 hr4
      rw [den_k t hlt] at hr4
      obtain rfl := fe_is hr (fe_d8 t hlt)
      have e1 := eOf_fe (8 - ((t + 1 : Nat) : Int)) (by omega) (by omega)
      have e2 := eOf_fe (8 - (t : Int)) (by omega) (by omega)
      go_roundw
      case rel => exact ⟨t + 1, _, _, by omega, rfl, rfl, rfl, hr4⟩
      case measure => rw [e1, e2]; omega
    · have g3 := geq_is hk c1 ((fe_k8 t (by omega)).trans (decide_eq_false hlt))
      obtain rfl : t = 8 := by omega
      go_wp2_with (refine wpList_ar rfl _ _ _ _ _ rfl rfl _ _ _ rfl rfl hz hp ?_; intro r n hr)
      go_ret
      exact ⟨_, rfl, rep_to hr (sinV_no hA), _, rfl⟩

set_option maxHeartbeats 2000000 in
theorem sine_ff {x : Nat} (h : Rep .f64 (some x) x) (hb : Bd .f64 (some x) (52 + 1074)) (hA : cm .geq .f64 (frV x) (some half6) = false) (hB : cm .gtr .f64 (f1V (frV x)) (some quart6) = false) (w : World) : Calls Try.prog 77 #[.float .f64 x] w fun e w' => ∃ r, e = .returned (.float .f64 r) ∧ Rep .f64 (sinV x) r ∧ ∃ n, w' = w.drewN n := by
  have hneg := run_neg6
  have c1 := rep_one
  have c2 := rep_two
  have c5 := rep_half
  have c6 := rep_quart
  have c7 := rep_turn
  go_enter Try.func77, Try.ntmps77
  go_wp2_with (first
    | (go_at_call 83; refine (fr_impl h hb _).mono ?_; rintro e w' ⟨r1, rfl, hr1, n1, rfl⟩; have g1 := geq_isv hr1 c5 hA; have hg := rep_to hr1 (f1V_no hA); have g2 := gtr_is hg c6 hB; have hf := rep_to hg (f2V_no hB))
    | (refine wpList_ar rfl _ _ _ _ _ rfl rfl _ _ _ rfl rfl hf c7 ?_; intro rz nz hz)
    | (refine wpList_ar rfl _ _ _ _ _ rfl rfl _ _ _ rfl rfl hz hz ?_; intro ru nu hu))
  have hz : Rep .f64 (zV (frV x)) rz := hz
  have hu : Rep .f64 (ar .mul .f64 (zV (frV x)) (zV (frV x))) ru := hu
  go_loopw [7, 8] (fun i o wr => ∃ (t q s : Nat), t ≤ 8 ∧ i = .float .f64 s ∧ o = .float .f64 (fe (8 - (t : Int))) ∧ wr = w.drewN q ∧ Rep .f64 (pv (ar .mul .f64 (zV (frV x)) (zV (frV x))) t) s) (fun _ o _ => (eOf o + 200).toNat)
  case atStart => exact ⟨0, _, _, Nat.zero_le _, rfl, by rw [fe_eight], rfl, rep_one⟩
  case round =>
    obtain ⟨t, q, s, ht, rfl, rfl, rfl, hp⟩ := hrel
    have hk := fe_rep (8 - (t : Int))
    by_cases hlt : t < 8
    · have g3 := geq_is hk c1 ((fe_k8 t (by omega)).trans (decide_eq_true hlt))
      go_wp2_with (refine wpList_ar rfl _ _ _ _ _ rfl rfl _ _ _ rfl rfl (by assumption) (by assumption) ?_; intro r n hr)
      rename_i r4 n4 hr4
      rw [den_k t hlt] at hr4
      obtain rfl := fe_is hr (fe_d8 t hlt)
      have e1 := eOf_fe (8 - ((t + 1 : Nat) : Int)) (by omega) (by omega)
      have e2 := eOf_fe (8 - (t : Int)) (by omega) (by omega)
      go_roundw
      case rel => exact ⟨t + 1, _, _, by omega, rfl, rfl, rfl, hr4⟩
      case measure => rw [e1, e2]; omega
    · have g3 := geq_is hk c1 ((fe_k8 t (by omega)).trans (decide_eq_false hlt))
      obtain rfl : t = 8 := by omega
      go_wp2_with (refine wpList_ar rfl _ _ _ _ _ rfl rfl _ _ _ rfl rfl hz hp ?_; intro r n hr)
      go_ret
      exact ⟨_, rfl, rep_to hr (sinV_no hA), _, rfl⟩

theorem sine_impl {x : Nat} (h : Rep .f64 (some x) x) (hb : Bd .f64 (some x) (52 + 1074)) (w : World) : Calls Try.prog 77 #[.float .f64 x] w fun e w' => ∃ r, e = .returned (.float .f64 r) ∧ Rep .f64 (sinV x) r ∧ ∃ n, w' = w.drewN n := by
  cases hA : cm .geq .f64 (frV x) (some half6) <;> cases hB : cm .gtr .f64 (f1V (frV x)) (some quart6)
  · exact sine_ff h hb hA hB w
  · exact sine_ft h hb hA hB w
  · exact sine_tf h hb hA hB w
  · exact sine_tt h hb hA hB w
end Go.Proofs.Ytpebdcimbdbbmaa
