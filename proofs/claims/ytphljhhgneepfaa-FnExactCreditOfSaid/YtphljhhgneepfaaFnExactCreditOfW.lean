/-
  The walk of the law on CreditOf: it returns true. Conditions: each number fits an int64.
-/
import Derived.Test.YtphljhhgneepfaaIn
namespace Go.Proofs.Ytphljhhgneepfaa.fnExactCreditOf
open Go.RowKit

theorem cents_spec (n : Int) (w : World) : Calls Try.prog 34 #[.int .i64 n] w fun e w' => e = .returned (.bool (inB n 0 1000000000000)) ∧ w = w' := by
  go_enter Try.func34, Try.ntmps34
  go_wp2_with (go_at_call 38; refine (in_spec _ _ _ _).mono ?_; rintro e w' ⟨rfl, rfl⟩)
  go_ret
  exact ⟨rfl, rfl⟩
theorem cents_impl (n : Int) (w : World) : Calls Try.prog 35 #[.int .i64 n] w fun e w' => e = .returned (.bool (inB n 0 1000000000000)) ∧ w = w' := by
  go_enter Try.func35, Try.ntmps35
  go_wp2_with (go_at_call 40; refine (in_impl _ _ _ _).mono ?_; rintro e w' ⟨rfl, rfl⟩)
  go_ret
  exact ⟨rfl, rfl⟩

/-- What both give. -/
def out (due credit : Int) (back : Bool) : Int × Bool :=
  if inB due 0 1000000000000 && inB credit 0 1000000000000 then (if decide (due < credit) && !back then (0, true) else (due - credit, true)) else (0, false)

set_option maxHeartbeats 400000 in
theorem credit_spec (due credit : Int) (back : Bool) (w : World) : Calls Try.prog 23 #[.int .i64 due, .int .i64 credit, .bool back] w fun e w' => e = .returned (.tuple #[.int .i64 (out due credit back).1, .bool (out due credit back).2]) ∧ w = w' := by
  unfold out
  cases h1 : inB due 0 1000000000000
  · go_enter Try.func23, Try.ntmps23
    go_wp2_with (go_at_call 34; refine (cents_spec _ _).mono ?_; rintro e w' ⟨rfl, rfl⟩)
    go_ret2
    exact ⟨rfl, rfl⟩
  · have b1 := inB_iff.1 h1
    cases h2 : inB credit 0 1000000000000
    · go_enter Try.func23, Try.ntmps23
      go_wp2_with (go_at_call 34; refine (cents_spec _ _).mono ?_; rintro e w' ⟨rfl, rfl⟩)
      go_ret2
      exact ⟨rfl, rfl⟩
    · have b2 := inB_iff.1 h2
      by_cases h3 : due < credit
      · cases back
        all_goals
          go_enter Try.func23, Try.ntmps23
          go_wp2_with (go_at_call 34; refine (cents_spec _ _).mono ?_; rintro e w' ⟨rfl, rfl⟩)
          go_ret2
          exact ⟨by simp [h3], rfl⟩
      · go_enter Try.func23, Try.ntmps23
        go_wp2_with (go_at_call 34; refine (cents_spec _ _).mono ?_; rintro e w' ⟨rfl, rfl⟩)
        go_ret2
        exact ⟨by simp [h3], rfl⟩

set_option maxHeartbeats 400000 in
theorem credit_impl (due credit : Int) (back : Bool) (w : World) : Calls Try.prog 24 #[.int .i64 due, .int .i64 credit, .bool back] w fun e w' => e = .returned (.tuple #[.int .i64 (out due credit back).1, .bool (out due credit back).2]) ∧ w = w' := by
  unfold out
  cases h1 : inB due 0 1000000000000
  · go_enter Try.func24, Try.ntmps24
    go_wp2_with (go_at_call 35; refine (cents_impl _ _).mono ?_; rintro e w' ⟨rfl, rfl⟩)
    go_ret2
    exact ⟨rfl, rfl⟩
  · have b1 := inB_iff.1 h1
    cases h2 : inB credit 0 1000000000000
    · go_enter Try.func24, Try.ntmps24
      go_wp2_with (go_at_call 35; refine (cents_impl _ _).mono ?_; rintro e w' ⟨rfl, rfl⟩)
      go_ret2
      exact ⟨rfl, rfl⟩
    · have b2 := inB_iff.1 h2
      by_cases h3 : due < credit
      · cases back
        all_goals
          go_enter Try.func24, Try.ntmps24
          go_wp2_with (go_at_call 35; refine (cents_impl _ _).mono ?_; rintro e w' ⟨rfl, rfl⟩)
          go_ret2
          exact ⟨by simp [h3], rfl⟩
      · go_enter Try.func24, Try.ntmps24
        go_wp2_with (go_at_call 35; refine (cents_impl _ _).mono ?_; rintro e w' ⟨rfl, rfl⟩)
        go_ret2
        exact ⟨by simp [h3], rfl⟩

theorem walk (a0 a1 : Int) (a2 : Bool) (w : World) (w0 : (Lit.int .i64 a0).wf = true) (w1 : (Lit.int .i64 a1).wf = true) :
    Calls Try.prog 9 #[.int .i64 a0, .int .i64 a1, .bool a2] w fun e w' => e = .returned (.bool true) ∧ Below w.heap.size w w' := by
  go_enter Try.func9, Try.ntmps9
  go_wp2_with (first
    | (go_at_call 23; refine (credit_spec _ _ _ _).mono ?_; rintro e w' ⟨rfl, rfl⟩)
    | (go_at_call 24; refine (credit_impl _ _ _ _).mono ?_; rintro e w' ⟨rfl, rfl⟩))
  go_ret
  exact ⟨rfl, Below.refl _ _⟩
end Go.Proofs.Ytphljhhgneepfaa.fnExactCreditOf
