/-
  The walk of the law on BitsOf: both functions give the same bits; the law returns true. Conditions: the arguments are floats.
-/
import Derived.Test.YtphljhhgneepfaaBitsImpl
namespace Go.Proofs.Ytphljhhgneepfaa.fnExactBitsOf
open Go.RowKit Flo

theorem b_spec {b : Nat} {v : Option Nat} (h : Rep .f32 v b) (w : World) : Calls Try.prog 15 #[.float .f32 b] w fun e w' => e = .returned (.int .i64 (bitsI b)) ∧ w = w' := by
  go_enter Try.func15, Try.ntmps15
  go_wp2_with (go_at_call 30; refine (bits_spec h _).mono ?_; rintro e w' ⟨rfl, rfl⟩)
  go_ret
  exact ⟨rfl, rfl⟩

theorem walk (a0 : Nat) (w : World) (w0 : (Lit.float .f32 a0).wf = true) : Calls Try.prog 5 #[.float .f32 a0] w fun e w' => e = .returned (.bool true) ∧ Below w.heap.size w w' := by
  have h := rep_wf _ _ w0
  clear w0
  go_enter Try.func5, Try.ntmps5
  go_wp2_with (first
    | (go_at_call 15; refine (b_spec h _).mono ?_; rintro e w' ⟨rfl, rfl⟩)
    | (go_at_call 16; refine (bits_impl h _).mono ?_; rintro e w' ⟨rfl, rfl⟩))
  go_ret
  exact ⟨rfl, Below.refl _ _⟩
end Go.Proofs.Ytphljhhgneepfaa.fnExactBitsOf
