/-
  The walk of the law on RootNumber: it returns true. Conditions: the argument is a float.
-/
import Derived.Test.YtpebdcimbdbbmaaRoot
import Derived.Test.YtpebdcimbdbbmaaSame
import Derived.WalkSmall
namespace Go.Proofs.Ytpebdcimbdbbmaa.fnExactRootNumber
open Go.RowKit Flo

theorem over_root {b : Nat} (h : b < 4294967296) : over (rt (up (tell .f32 b))) = false := by
  unfold tell
  cases hn : nan .f32 b
  · simp only [Bool.false_eq_true, if_false, up_some]
    rcases Nat.lt_or_eq_of_le ((not_nan_iff .f32 b).1 hn) with h1 | h1
    · rcases bd_root (bd_up h1) (e := 1138) (by decide) (by decide) with h2 | h2
      · rw [h2]; rfl
      · exact over_bd h2 (by decide)
    · have hr : rg .f64 (upw b) = FloatKind.f64.format.infRung := by rw [upw_inf b h1]; exact (word_sg .f64 _ _ (Nat.le_refl _)).2
      rcases rt_inf hr with h2 | ⟨c, h2, h3⟩
      · rw [h2]; rfl
      · rw [h2]
        exact over_inf fun x hx => by injection hx with hx; rw [← hx]; exact h3
  · rfl

/-- The root. -/
def rootV (b : Nat) : Option Nat := down (rt (up (tell .f32 b)))

theorem r_impl {b : Nat} (h : Rep .f32 (tell .f32 b) b) (w : World) : Calls Try.prog 33 #[.float .f32 b] w fun e w' => ∃ r, e = .returned (.float .f32 r) ∧ Rep .f32 (rootV b) r ∧ ∃ n, w' = w.drewN n := by
  have ho := over_root h.lt
  go_enter Try.func33, Try.ntmps33
  go_wp2_with (first
    | (refine wpList_up rfl _ _ _ rfl Try.underlying22 Try.underlying26 _ rfl h ?_; intro r n hu)
    | (go_at_call 70; refine (sqrt_any (by assumption) _).mono ?_; rintro e w' ⟨r2, rfl, hr2, n2, rfl⟩)
    | (refine wpList_down rfl _ _ _ rfl Try.underlying26 Try.underlying22 _ rfl hr2 ho ?_; intro r3 n3 hr3))
  go_ret
  exact ⟨_, rfl, by assumption, _, rfl⟩

theorem l_spec {b : Nat} (h : Rep .f32 (tell .f32 b) b) (w : World) : Calls Try.prog 69 #[.float .f32 b] w fun e w' => ∃ r, e = .returned (.float .f32 r) ∧ Rep .f32 (rootV b) r ∧ ∃ n, w' = w.drewN n := by
  have ho := over_root h.lt
  go_enter Try.func69, Try.ntmps69
  go_wp2_with (first
    | (refine wpList_up rfl _ _ _ rfl Try.underlying22 Try.underlying26 _ rfl h ?_; intro r n hu)
    | (go_at_call 70; refine (sqrt_any (by assumption) _).mono ?_; rintro e w' ⟨r2, rfl, hr2, n2, rfl⟩)
    | (go_at_call 93; refine (narrow_spec hr2 ho _).mono ?_; rintro e w' ⟨r3, rfl, hr3, n3, rfl⟩))
  go_ret
  exact ⟨_, rfl, by assumption, _, rfl⟩
theorem r_spec {b : Nat} (h : Rep .f32 (tell .f32 b) b) (w : World) : Calls Try.prog 32 #[.float .f32 b] w fun e w' => ∃ r, e = .returned (.float .f32 r) ∧ Rep .f32 (rootV b) r ∧ ∃ n, w' = w.drewN n := by
  go_enter Try.func32, Try.ntmps32
  go_wp2_with (go_at_call 69; refine (l_spec h _).mono ?_; rintro e w' ⟨r, rfl, hr, n, rfl⟩)
  go_ret
  exact ⟨_, rfl, by assumption, _, rfl⟩

theorem walk (a0 : Nat) (w : World) (w0 : (Lit.float .f32 a0).wf = true) :
    Calls Try.prog 9 #[.float .f32 a0] w fun e w' => e = .returned (.bool true) ∧ Below w.heap.size w w' := by
  have h := rep_wf _ _ w0
  clear w0
  go_enter Try.func9, Try.ntmps9
  go_wp2_with (first
    | (go_at_call 32; refine (r_spec h _).mono ?_; rintro e w' ⟨r1, rfl, hr1, n1, rfl⟩)
    | (go_at_call 33; refine (r_impl h _).mono ?_; rintro e w' ⟨r2, rfl, hr2, n2, rfl⟩)
    | (refine wpList_up rfl _ _ _ rfl Try.underlying22 Try.underlying26 _ rfl hr2 ?_; intro r3 n3 hu3)
    | (refine wpList_up rfl _ _ _ rfl Try.underlying22 Try.underlying26 _ rfl hr1 ?_; intro r4 n4 hu4)
    | (go_at_call 19; refine (same_any (by assumption) (by assumption) _).mono ?_; rintro e w' ⟨rfl, k, rfl⟩))
  go_ret
  exact ⟨rfl, below_drewN (Below.refl _ _) _⟩
end Go.Proofs.Ytpebdcimbdbbmaa.fnExactRootNumber
