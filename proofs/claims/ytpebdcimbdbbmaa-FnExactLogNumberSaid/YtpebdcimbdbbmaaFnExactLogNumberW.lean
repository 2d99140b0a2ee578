/-
  The walk of the law on LogNumber: it returns true. Conditions: the argument is a float.
-/
import Derived.Test.YtpebdcimbdbbmaaLogK
import Derived.WalkSmall
namespace Go.Proofs.Ytpebdcimbdbbmaa.fnExactLogNumber
open Go.RowKit Flo

/-- What both hand back: told by v. -/
def Post (v : Option Nat) (w : World) (e : Ending) (w' : World) : Prop := ∃ r, e = .returned (.float .f32 r) ∧ Rep .f32 v r ∧ ∃ n, w' = w.drewN n

theorem inf_is : nan .f32 2139095040 = false ∧ FloatKind.f32.format.order 2139095040 0 = some .gt ∧ upw 2139095040 = 9218868437227405312 := by decide +kernel
theorem down_inf : down (some (upw 2139095040)) = some 2139095040 := by decide +kernel
theorem over_one {c : Nat} (h : rg .f64 c = FloatKind.f64.format.infRung) : over (some c) = false := over_inf fun b e => by injection e with e; rw [← e]; exact h
theorem ninf_rg : rg .f64 18442240474082181120 = FloatKind.f64.format.infRung := by decide +kernel

set_option maxHeartbeats 1000000 in
theorem both {b : Nat} (h : Rep .f32 (tell .f32 b) b) : ∃ v, (∀ w, Calls Try.prog 35 #[.float .f32 b] w (Post v w)) ∧ ∀ w, Calls Try.prog 71 #[.float .f32 b] w (Post v w) := by
  rcases kinds h.lt with hn | ⟨hn, ho⟩ | ⟨hn, ho⟩ | rfl | ⟨hr, ho⟩
  · -- NaN
    have hself := order_nan hn
    have ht : tell .f32 b = none := by unfold tell; rw [if_pos hn]
    refine ⟨none, fun w => ?_, fun w => ?_⟩
    · go_enter Try.func35, Try.ntmps35
      go_wp2_with (first
        | (go_at_call 72; refine (nan_call _).mono ?_; rintro e w' ⟨rfl, rfl⟩)
        | (refine wpList_down rfl _ _ _ rfl Try.underlying26 Try.underlying22 _ rfl rep_nan rfl ?_; intro r n hr))
      go_ret
      exact ⟨_, rfl, by assumption, _, rfl⟩
    · rw [ht] at h
      go_enter Try.func71, Try.ntmps71
      go_wp2_with (first
        | (refine wpList_up rfl _ _ _ rfl Try.underlying22 Try.underlying26 _ rfl h ?_; intro r n hu; have hx := order_nan hu.none)
        | (go_at_call 96; refine (lw_nan hx _).mono ?_; rintro e w' ⟨rfl, rfl⟩)
        | (go_at_call 93; refine (narrow_spec rep_nan rfl _).mono ?_; rintro e w' ⟨r3, rfl, hr3, n3, rfl⟩))
      go_ret
      exact ⟨_, rfl, by assumption, _, rfl⟩
  · -- negative
    have hself := order_self hn
    have h64 := (order0 hn).trans ho
    have hs64 := order_self (upw_nan hn)
    have hc := fun w => run_upw (P := Try.prog) 22 26 Try.underlying22 Try.underlying26 hn w
    refine ⟨none, fun w => ?_, fun w => ?_⟩
    · go_enter Try.func35, Try.ntmps35
      go_wp2_with (first
        | (go_at_call 72; refine (nan_call _).mono ?_; rintro e w' ⟨rfl, rfl⟩)
        | (refine wpList_down rfl _ _ _ rfl Try.underlying26 Try.underlying22 _ rfl rep_nan rfl ?_; intro r n hr))
      go_ret
      exact ⟨_, rfl, by assumption, _, rfl⟩
    · go_enter Try.func71, Try.ntmps71
      go_wp2_with (first
        | (go_at_call 96; refine (lw_neg hs64 h64 _).mono ?_; rintro e w' ⟨rfl, rfl⟩)
        | (go_at_call 93; refine (narrow_spec rep_nan rfl _).mono ?_; rintro e w' ⟨r3, rfl, hr3, n3, rfl⟩))
      go_ret
      exact ⟨_, rfl, by assumption, _, rfl⟩
  · -- zero
    have hself := order_self hn
    have h64 := (order0 hn).trans ho
    have hs64 := order_self (upw_nan hn)
    have hc := fun w => run_upw (P := Try.prog) 22 26 Try.underlying22 Try.underlying26 hn w
    refine ⟨down (some 18442240474082181120), fun w => ?_, fun w => ?_⟩
    · go_enter Try.func35, Try.ntmps35
      go_wp2_with (first
        | (go_at_call 68; refine (inf_call _).mono ?_; rintro e w' ⟨rfl, rfl⟩)
        | (refine wpList_down rfl _ _ _ rfl Try.underlying26 Try.underlying22 _ rfl rep_ninf (over_one ninf_rg) ?_; intro r n hr))
      go_ret
      exact ⟨_, rfl, by assumption, _, rfl⟩
    · go_enter Try.func71, Try.ntmps71
      go_wp2_with (first
        | (go_at_call 96; refine (lw_zero hs64 h64 _).mono ?_; rintro e w' ⟨rfl, rfl⟩)
        | (go_at_call 93; refine (narrow_spec rep_ninf (over_one ninf_rg) _).mono ?_; rintro e w' ⟨r3, rfl, hr3, n3, rfl⟩))
      go_ret
      exact ⟨_, rfl, by assumption, _, rfl⟩
  · -- infinity
    obtain ⟨hn, ho, hw⟩ := inf_is
    have hself := order_self hn
    have h64 := (order0 hn).trans ho
    have hs64 := order_self (upw_nan hn)
    have hc := fun w => run_upw (P := Try.prog) 22 26 Try.underlying22 Try.underlying26 hn w
    have h3 : (FloatKind.f64.format.order (upw 2139095040) 9218868437227405311 == some .gt) = true := by decide +kernel
    have hru : Rep .f64 (some (upw 2139095040)) (upw 2139095040) := rep_some (upw_lt _) (upw_nan hn)
    have hov : over (some (upw 2139095040)) = false := over_one (by decide +kernel)
    have hend : endS 2139095040 = false := by decide +kernel
    clear hw
    refine ⟨some 2139095040, fun w => ?_, fun w => ?_⟩
    · go_enter Try.func35, Try.ntmps35
      go_wp2_with (go_at_call 73; refine (finite_impl h _).mono ?_; rintro e w' ⟨rfl, n, rfl⟩)
      go_ret
      exact ⟨_, rfl, rep_lit _ _ (by decide +kernel), _, rfl⟩
    · go_enter Try.func71, Try.ntmps71
      go_wp2_with (first
        | (go_at_call 96; refine (lw_inf hs64 h64 h3 _).mono ?_; rintro e w' ⟨rfl, rfl⟩)
        | (go_at_call 93; refine (narrow_spec hru hov _).mono ?_; rintro e w' ⟨r3, rfl, hr3, n3, rfl⟩))
      go_ret
      rw [down_inf] at hr3
      exact ⟨_, rfl, hr3, _, rfl⟩
  · -- positive
    have hn := (not_nan_iff .f32 b).2 (Nat.le_of_lt hr)
    have hself := order_self hn
    have hp := up_ps hr ho
    have hru : Rep .f64 (some (upw b)) (upw b) := rep_some (upw_lt b) (upw_nan hn)
    have hc := fun w => run_upw (P := Try.prog) 22 26 Try.underlying22 Try.underlying26 hn w
    have hend : endS b = true := by
      unfold endS
      exact decide_eq_true hr
    refine ⟨down (lgV (upw b)), fun w => ?_, fun w => ?_⟩
    · go_enter Try.func35, Try.ntmps35
      go_wp2_with (first
        | (go_at_call 73; refine (finite_impl h _).mono ?_; rintro e w' ⟨rfl, n, rfl⟩)
        | (go_at_call 74; refine (log_impl hru hp _).mono ?_; rintro e w' ⟨r2, rfl, hr2, hb2, n2, rfl⟩)
        | (refine wpList_down rfl _ _ _ rfl Try.underlying26 Try.underlying22 _ rfl hr2 (over_bd hb2 (by decide)) ?_; intro r3 n3 hr3))
      go_ret
      exact ⟨_, rfl, by assumption, _, rfl⟩
    · go_enter Try.func71, Try.ntmps71
      go_wp2_with (first
        | (go_at_call 96; refine (log_spec hru hp _).mono ?_; rintro e w' ⟨r2, rfl, hr2, hb2, n2, rfl⟩)
        | (go_at_call 93; refine (narrow_spec hr2 (over_bd hb2 (by decide)) _).mono ?_; rintro e w' ⟨r3, rfl, hr3, n3, rfl⟩))
      go_ret
      exact ⟨_, rfl, by assumption, _, rfl⟩

theorem walk (a0 : Nat) (w : World) (w0 : (Lit.float .f32 a0).wf = true) :
    Calls Try.prog 10 #[.float .f32 a0] w fun e w' => e = .returned (.bool true) ∧ Below w.heap.size w w' := by
  obtain ⟨v, hi, hs⟩ := both (rep_wf _ _ w0)
  clear w0
  have hs2 : ∀ w, Calls Try.prog 34 #[.float .f32 a0] w (Post v w) := fun w => by
    go_enter Try.func34, Try.ntmps34
    go_wp2_with (go_at_call 71; refine (hs _).mono ?_; rintro e w' ⟨r, rfl, hr, n, rfl⟩)
    go_ret
    exact ⟨_, rfl, by assumption, _, rfl⟩
  go_enter Try.func10, Try.ntmps10
  go_wp2_with (first
    | (go_at_call 34; refine (hs2 _).mono ?_; rintro e w' ⟨r1, rfl, hr1, n1, rfl⟩)
    | (go_at_call 35; refine (hi _).mono ?_; rintro e w' ⟨r2, rfl, hr2, n2, rfl⟩)
    | (refine wpList_up rfl _ _ _ rfl Try.underlying22 Try.underlying26 _ rfl hr2 ?_; intro r3 n3 hu3)
    | (refine wpList_up rfl _ _ _ rfl Try.underlying22 Try.underlying26 _ rfl hr1 ?_; intro r4 n4 hu4)
    | (go_at_call 19; refine (same_any (by assumption) (by assumption) _).mono ?_; rintro e w' ⟨rfl, k, rfl⟩))
  go_ret
  exact ⟨rfl, below_drewN (Below.refl _ _) _⟩
end Go.Proofs.Ytpebdcimbdbbmaa.fnExactLogNumber
