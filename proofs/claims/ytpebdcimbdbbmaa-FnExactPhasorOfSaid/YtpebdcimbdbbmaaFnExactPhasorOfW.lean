/-
  The walk of the law on PhasorOf: it returns true. Conditions: the argument is a float.
-/
import Derived.Test.YtpebdcimbdbbmaaPhS
import Derived.WalkSmall
namespace Go.Proofs.Ytpebdcimbdbbmaa.fnExactPhasorOf
set_option linter.unusedVariables false
set_option linter.unusedSimpArgs false
open Go.RowKit Flo

theorem rep_nan32 : Rep .f32 none 2143289344 := ⟨by decide +kernel, by decide +kernel⟩
theorem rep_one32 : Rep .f32 (some 1065353216) 1065353216 := rep_lit _ _ (by decide +kernel)
theorem rep_zero32 : Rep .f32 (some 0) 0 := rep_lit _ _ (by decide +kernel)

theorem ended_self {x : Nat} (h : Rep .f64 (tell .f64 x) x) (hend : endB x = false) : ar .sub .f64 (tell .f64 x) (tell .f64 x) = none := by
  unfold tell
  cases hn : nan .f64 x
  · have h1 := (not_nan_iff .f64 x).1 hn
    rcases Nat.lt_or_eq_of_le h1 with h2 | h2
    · rw [endB_of h2] at hend; cases hend
    · show floatBits .sub .f64 x x = none
      exact sub_self_inf h2
  · rfl

set_option maxHeartbeats 2000000 in
theorem both {x : Nat} (h : Rep .f64 (tell .f64 x) x) : ∃ v u, (∀ w, Calls Try.prog 41 #[.float .f64 x] w (CPost v u w)) ∧ ∀ w, Calls Try.prog 81 #[.float .f64 x] w (CPost v u w) := by
  cases he : endB x
  · have hv := ended_self h he
    have hn32 := rep_nan32
    refine ⟨none, none, fun w => ?_, fun w => ?_⟩
    · clear hv
      go_enter Try.func41, Try.ntmps41
      go_wp2_with (first
        | (go_at_call 72; refine (nan_call _).mono ?_; rintro e w' ⟨rfl, rfl⟩)
        | (refine wpList_down rfl _ _ _ rfl Try.underlying26 Try.underlying22 _ rfl rep_nan rfl ?_; intro rn nn hrn)
        | (go_at_call 82; refine (ended_any h _).mono ?_; rintro e w' ⟨rfl, rfl⟩))
      go_ret
      exact ⟨_, _, rfl, hrn, hrn, _, rfl⟩
    · clear he
      go_enter Try.func81, Try.ntmps81
      go_wp2_with (first
        | (refine wpList_ar rfl _ _ _ _ _ rfl rfl _ _ _ rfl rfl h h ?_; intro r n hr; have g := neq_none (rep_to hr hv.symm))
        | (go_at_call 54; refine (from_low 2143289344 (by decide) (by decide) _).mono ?_; rintro e w' ⟨rfl, rfl⟩))
      go_ret
      exact ⟨_, _, rfl, hn32, hn32, _, rfl⟩
  · have hr : rg .f64 x < FloatKind.f64.format.infRung := of_decide_eq_true (p := rg .f64 x < 9218868437227405312) he
    have hn := (not_nan_iff .f64 x).2 (Nat.le_of_lt hr)
    have hx : Rep .f64 (some x) x := rep_some h.lt hn
    cases hg : gtB x
    · obtain ⟨J, S, D, HC⟩ := ph_c hx (small_bd hg)
      exact ⟨_, _, fun w => ph_impl HC hg w, fun w => ph_spec HC hg w⟩
    · have h1 := rep_one32
      have h2 := rep_zero32
      refine ⟨some 1065353216, some 0, fun w => ?_, fun w => ?_⟩
      · go_enter Try.func41, Try.ntmps41
        go_wp2_with (first
          | (go_at_call 72; refine (nan_call _).mono ?_; rintro e w' ⟨rfl, rfl⟩)
          | (refine wpList_down rfl _ _ _ rfl Try.underlying26 Try.underlying22 _ rfl rep_nan rfl ?_; intro rn nn hrn)
          | (go_at_call 82; refine (ended_any hx _).mono ?_; rintro e w' ⟨rfl, rfl⟩)
          | (go_at_call 76; refine (great_any hx _).mono ?_; rintro e w' ⟨rfl, rfl⟩))
        go_ret
        exact ⟨_, _, rfl, h1, h2, _, rfl⟩
      · have g1 := great_hi hn
        have g2 := great_lo hn
        rw [hg, Bool.and_true] at g1 g2
        have HXX := Lib.hid (sub_self hr)
        have h00 := order_zero
        clear hg he hn hr
        cases hsg : sg .f64 x
        all_goals
          rw [hsg] at g1 g2
          simp only [Bool.not_false, Bool.not_true] at g1
          go_enter Try.func81, Try.ntmps81
          go_wp2_with (refine wpList_ar rfl _ _ _ _ _ rfl rfl _ _ _ rfl rfl hx hx ?_; intro rs ns hrs; obtain rfl := (rep_to hrs HXX.out.symm).some)
          go_ret
          exact ⟨_, _, rfl, h1, h2, _, rfl⟩

theorem walk (a0 : Nat) (w : World) (w0 : (Lit.float .f64 a0).wf = true) :
    Calls Try.prog 13 #[.float .f64 a0] w fun e w' => e = .returned (.bool true) ∧ Below w.heap.size w w' := by
  obtain ⟨v, u, hi, hs⟩ := both (rep_wf _ _ w0)
  clear w0
  have hs2 : ∀ w, Calls Try.prog 40 #[.float .f64 a0] w (CPost v u w) := fun w => by
    go_enter Try.func40, Try.ntmps40
    go_wp2_with (go_at_call 81; refine (hs _).mono ?_; rintro e w' ⟨r, s, rfl, hr, hs, n, rfl⟩)
    go_ret
    exact ⟨_, _, rfl, by assumption, by assumption, _, rfl⟩
  go_enter Try.func13, Try.ntmps13
  go_wp2_with (first
    | (go_at_call 40; refine (hs2 _).mono ?_; rintro e w' ⟨r1, s1, rfl, hr1, hs1, n1, rfl⟩)
    | (go_at_call 41; refine (hi _).mono ?_; rintro e w' ⟨r2, s2, rfl, hr2, hs2, n2, rfl⟩)
    | (refine wpList_cup rfl _ rfl _ _ rfl hr2 hs2 ?_; intro r3 s3 n3 hu3 hv3)
    | (refine wpList_cup rfl _ rfl _ _ rfl hr1 hs1 ?_; intro r4 s4 n4 hu4 hv4)
    | (go_at_call 42; refine (csame_any hu3 hv3 hu4 hv4 _).mono ?_; rintro e w' ⟨rfl, k, rfl⟩))
  go_ret
  exact ⟨rfl, below_drewN (Below.refl _ _) _⟩
end Go.Proofs.Ytpebdcimbdbbmaa.fnExactPhasorOf
