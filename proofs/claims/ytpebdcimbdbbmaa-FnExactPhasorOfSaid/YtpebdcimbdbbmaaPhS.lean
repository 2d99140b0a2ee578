/-
  The phasor: the reference's function; complex numbers part by part. Conditions: those that each theorem names.
-/
import Derived.Test.YtpebdcimbdbbmaaPhW
import Derived.Test.YtpebdcimbdbbmaaFrom
namespace Go.Proofs.Ytpebdcimbdbbmaa
set_option linter.unusedVariables false
set_option linter.unusedSimpArgs false
open Go.RowKit Flo

set_option maxHeartbeats 8000000 in
theorem ph_spec {x J S D : Nat} (h : PhC x J S D) (hg : gtB x = false) (w : World) : Calls Try.prog 81 #[.float .f64 x] w (CPost (down (rePh J (sinV D) (sinV S))) (down (imPh J (sinV D) (sinV S))) w) := by
  have c0 := rep_z6
  have c1 := rep_one
  have c6 := rep_quart
  have hx := h.rep
  have hb := h.bd
  have s1 := small_hi hx.2.2 hg
  have s2 := small_lo hx.2.2 hg
  have HXX := Lib.hid (sub_self h.fin)
  have h00 := order_zero
  obtain ⟨hi, _⟩ := frac_bd hb
  have hcv := cv_int6 hi
  have hfe : ∀ n, floatOfInt .f64 n = fe n := fun _ => rfl
  have hft := fe_rep (trI x)
  obtain ⟨gS, gD⟩ := h.gt hg
  have HSD := Lib.hid (fun w => sine_spec h.repD h.bdD6 (small_hi h.repD.2.2 gD) (small_lo h.repD.2.2 gD) w)
  have HSS := Lib.hid (fun w => sine_spec h.is.rep h.bdS6 (small_hi h.is.rep.2.2 gS) (small_lo h.is.rep.2.2 gS) w)
  have HP := Lib.hid h
  clear h gS gD hg
  cases hc : cm .lss .f64 (ar .sub .f64 (some x) (some (fe (trI x)))) (some 0)
  all_goals
    go_enter Try.func81, Try.ntmps81
    go_wp2_with (first
      | (refine wpList_ar rfl _ _ _ _ _ rfl rfl _ _ _ rfl rfl hx hx ?_; intro rs ns hrs; obtain rfl := (rep_to hrs HXX.out.symm).some)
      | (refine wpList_ar rfl _ _ _ _ _ rfl rfl _ _ _ rfl rfl hx hft ?_; intro r n hr; have g1 := lss_isv hr c0 hc)
      | (refine wpList_ar rfl _ _ _ _ _ rfl rfl _ _ _ rfl rfl hr c1 ?_; intro r n hr))
    have hr0 : Rep .f64 (qF (frV x) 0) r := by
      first | exact rep_to hr (frV_no hc) | exact rep_to hr (frV_yes hc)
    clear hr
    go_loopw [3, 4] (fun f q wr => ∃ (j n r : Nat), j ≤ J ∧ f = .float .f64 r ∧ q = .int .i64 (j : Int) ∧ wr = w.drewN n ∧ Rep .f64 (qF (frV x) j) r) (fun _ q _ => (J - intOf q).toNat)
    case atStart => exact ⟨0, _, _, Nat.zero_le _, rfl, rfl, rfl, hr0⟩
    case round =>
      clear hr0
      obtain ⟨j, n, r, hj, rfl, rfl, rfl, hr⟩ := hrel
      have hj4 := HP.out.is.le
      by_cases hlt : j < J
      · have g := ph_test HP.out.is hlt hr
        go_wp2_with (refine wpList_ar rfl _ _ _ _ _ rfl rfl _ _ _ rfl rfl hr c6 ?_; intro r2 n2 hr2)
        go_roundw
        case rel => exact ⟨j + 1, _, _, by omega, rfl, by go_num, rfl, hr2⟩
        case measure => simp [intOf]; omega
      · obtain rfl : j = J := by omega
        obtain ⟨e, g⟩ := ph_stop HP.out.is hr
        subst e
        have RS := HP.out.is.rep
        have o1 := HP.out.oc
        have o2 := HP.out.os
        have o3 := HP.out.onc
        have o4 := HP.out.ons
        have HD := Lib.hid HP.out.d
        clear hr hlt hx hb s1 s2 hj hcv hft hc hfe
        obtain rfl | rfl | rfl | rfl | rfl : j = 0 ∨ j = 1 ∨ j = 2 ∨ j = 3 ∨ j = 4 := by omega
        all_goals
          clear hj4
          go_wp2_with (first
            | (go_at_call 97; first | ((with_reducible refine (HSD.out _).mono ?_); rintro e w' ⟨r2, rfl, hr2, n2, rfl⟩) | ((with_reducible refine (HSS.out _).mono ?_); rintro e w' ⟨r2, rfl, hr2, n2, rfl⟩))
            | (go_at_call 93; refine (narrow_spec (by assumption) (by assumption) _).mono ?_; rintro e w' ⟨r3, rfl, hr3, n3, rfl⟩)
            | (refine wpList_ar rfl _ _ _ _ _ rfl rfl _ _ _ rfl rfl c6 RS ?_; intro rd nd hrd; obtain rfl := (rep_to hrd HD.out.symm).some)
            | (refine wpList_ar rfl _ _ _ _ _ rfl rfl _ _ _ rfl rfl c0 (by assumption) ?_; intro r5 n5 hr5))
          go_ret
          exact ⟨_, _, rfl, by assumption, by assumption, _, rfl⟩

/-! ### Complex numbers part by part -/

theorem run_ff {v : Option Nat} {b : Nat} (h : Rep .f32 v b) (w : World) : ∃ r n, (Conv.floatToFloat .f32 b .f64).run Try.prog w = .ok (.float .f64 r) (w.drewN n) ∧ Rep .f64 (up v) r := by
  obtain ⟨r, n, h1, h2⟩ := run_up (P := Try.prog) 22 26 Try.underlying22 Try.underlying26 h w
  refine ⟨r, n, ?_, h2⟩
  simpa [convert, run_underlying (Try.underlying22), run_underlying (Try.underlying26)] using h1

theorem run_cup {v u : Option Nat} {a b : Nat} (ha : Rep .f32 v a) (hb : Rep .f32 u b) (w : World) : ∃ r s n, (convert 40 43 (.complex .f32 a b)).run Try.prog w = .ok (.complex .f64 r s) (w.drewN n) ∧ Rep .f64 (up v) r ∧ Rep .f64 (up u) s := by
  obtain ⟨r, n, h1, h2⟩ := run_ff ha w
  obtain ⟨s, m, h3, h4⟩ := run_ff hb (w.drewN n)
  refine ⟨r, s, n + m, ?_, h2, h4⟩
  simp [convert, run_underlying (Try.underlying40), run_underlying (Try.underlying43), Conv.complexToComplex, h1, h3, World.drewN_drewN]

section
variable {w : World} {ops : Array Oper} {rest : List Oper} {o : Oper} {a : Act} {Q : Exit → Act → World → Prop}
theorem wpList_cup (hg : o.guard = none) (x : Operand) (ho : o.op = .convert 40 43 x) (b c : Nat) (ex : a.eval x = .complex .f32 b c) {v u : Option Nat} (hx : Rep .f32 v b) (hy : Rep .f32 u c)
    (h : ∀ r s n, Rep .f64 (up v) r → Rep .f64 (up u) s → wpList Try.prog ops Q rest (a.put o.dst (.complex .f64 r s)) (w.drewN n)) : wpList Try.prog ops Q (o :: rest) a w := by
  refine wpList_plain hg fun K hK => ?_
  obtain ⟨r, s, n, hrun, hr, hs⟩ := run_cup hx hy w
  unfold Oper.wp
  simp [execOp, ho, ex, hrun, Result.andThen]
  exact hK _ _ (h r s n hr hs)
end

theorem csame_any {v u : Option Nat} {a b c d : Nat} (ha : Rep .f64 v a) (hb : Rep .f64 u b) (hc : Rep .f64 v c) (hd : Rep .f64 u d) (w : World) :
    Calls Try.prog 42 #[.complex .f64 a b, .complex .f64 c d] w fun e w' => e = .returned (.bool true) ∧ ∃ n, w' = w.drewN n := by
  go_enter Try.func42, Try.ntmps42
  go_wp2_with (go_at_call 19; first | ((with_reducible refine (same_any ha hc _).mono ?_); rintro e w' ⟨rfl, k, rfl⟩) | ((with_reducible refine (same_any hb hd _).mono ?_); rintro e w' ⟨rfl, k, rfl⟩))
  go_ret
  exact ⟨rfl, _, rfl⟩
end Go.Proofs.Ytpebdcimbdbbmaa
