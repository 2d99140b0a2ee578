/-
  The walk of the law on IsFinite: both functions tell whether a number is finite; the law returns true. Conditions: the arguments are floats.
-/
import Derived.Test.YtphljhhgneepfaaWide
namespace Go.Proofs.Ytphljhhgneepfaa.fnExactIsFinite
open Go.RowKit Flo

theorem f_spec {v : Option Nat} {x : Nat} (h : Rep .f32 v x) (w : World) : Calls Try.prog 25 #[.float .f32 x] w fun e w' => e = .returned (.bool (endS x)) ∧ ∃ n, w' = w.drewN n := by
  go_enter Try.func25, Try.ntmps25
  go_wp2_with (go_at_call 36; refine (finite_spec h _).mono ?_; rintro e w' ⟨rfl, n, rfl⟩)
  go_ret
  exact ⟨rfl, n, rfl⟩

theorem walk (a0 : Nat) (w : World) (w0 : (Lit.float .f32 a0).wf = true) : Calls Try.prog 10 #[.float .f32 a0] w fun e w' => e = .returned (.bool true) ∧ Below w.heap.size w w' := by
  have h := rep_wf _ _ w0
  clear w0
  cases hs : endS a0
  all_goals
    go_enter Try.func10, Try.ntmps10
    go_wp2_with (first
      | (go_at_call 25; refine (f_spec h _).mono ?_; rintro e w' ⟨rfl, n, rfl⟩)
      | (go_at_call 26; refine (finite_impl h _).mono ?_; rintro e w' ⟨rfl, n, rfl⟩))
    go_ret
    exact ⟨rfl, below_drewN (Below.refl _ _) _⟩
end Go.Proofs.Ytphljhhgneepfaa.fnExactIsFinite
