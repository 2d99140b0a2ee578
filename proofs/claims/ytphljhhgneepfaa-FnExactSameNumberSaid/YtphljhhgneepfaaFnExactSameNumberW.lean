/-
  The walk of the law on SameNumber: both functions compare the bits; the law returns true. Conditions: the arguments are floats.
-/
import Derived.Test.YtphljhhgneepfaaBitsImpl
namespace Go.Proofs.Ytphljhhgneepfaa.fnExactSameNumber
open Go.RowKit Flo

def sameB (a b : Nat) : Bool := bitsI a == bitsI b

theorem s_low {a b : Nat} {v u : Option Nat} (h : Rep .f32 v a) (k : Rep .f32 u b) (w : World) : Calls Try.prog 33 #[.float .f32 a, .float .f32 b] w fun e w' => e = .returned (.bool (sameB a b)) ∧ w = w' := by
  go_enter Try.func33, Try.ntmps33
  go_wp2_with fail
  refine (bits_spec h _).mono ?_
  rintro e w' ⟨rfl, rfl⟩
  go_wp2_with fail
  refine (bits_spec k _).mono ?_
  rintro e w' ⟨rfl, rfl⟩
  go_wp2_with fail
  go_ret
  exact ⟨rfl, rfl⟩

theorem s_spec {a b : Nat} {v u : Option Nat} (h : Rep .f32 v a) (k : Rep .f32 u b) (w : World) : Calls Try.prog 21 #[.float .f32 a, .float .f32 b] w fun e w' => e = .returned (.bool (sameB a b)) ∧ w = w' := by
  go_enter Try.func21, Try.ntmps21
  go_wp2_with (go_at_call 33; refine (s_low h k _).mono ?_; rintro e w' ⟨rfl, rfl⟩)
  go_ret
  exact ⟨rfl, rfl⟩

theorem s_impl {a b : Nat} {v u : Option Nat} (h : Rep .f32 v a) (k : Rep .f32 u b) (w : World) : Calls Try.prog 22 #[.float .f32 a, .float .f32 b] w fun e w' => e = .returned (.bool (sameB a b)) ∧ w = w' := by
  go_enter Try.func22, Try.ntmps22
  go_wp2_with fail
  refine (bits_impl h _).mono ?_
  rintro e w' ⟨rfl, rfl⟩
  go_wp2_with fail
  refine (bits_impl k _).mono ?_
  rintro e w' ⟨rfl, rfl⟩
  go_wp2_with fail
  go_ret
  exact ⟨rfl, rfl⟩

theorem walk (a0 a1 : Nat) (w : World) (w0 : (Lit.float .f32 a0).wf = true) (w1 : (Lit.float .f32 a1).wf = true) : Calls Try.prog 8 #[.float .f32 a0, .float .f32 a1] w fun e w' => e = .returned (.bool true) ∧ Below w.heap.size w w' := by
  have h := rep_wf _ _ w0
  have k := rep_wf _ _ w1
  clear w0 w1
  cases hs : sameB a0 a1
  all_goals
    go_enter Try.func8, Try.ntmps8
    go_wp2_with (first
      | (go_at_call 21; refine (s_spec h k _).mono ?_; rintro e w' ⟨rfl, rfl⟩)
      | (go_at_call 22; refine (s_impl h k _).mono ?_; rintro e w' ⟨rfl, rfl⟩))
    go_ret
    exact ⟨rfl, Below.refl _ _⟩
end Go.Proofs.Ytphljhhgneepfaa.fnExactSameNumber
