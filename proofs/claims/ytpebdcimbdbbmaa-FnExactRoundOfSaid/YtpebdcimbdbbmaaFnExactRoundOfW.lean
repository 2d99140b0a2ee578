/-
  The walk of the law on RoundOf: it returns true. Conditions: each number fits an int64.
-/
import Derived.Test.YtpebdcimbdbbmaaIn
import Derived.Test.YtpebdcimbdbbmaaRound
import Derived.WalkSmall
namespace Go.Proofs.Ytpebdcimbdbbmaa.fnExactRoundOf
open Go.RowKit

theorem way_spec (n : Int) (w : World) : Calls Try.prog 60 #[.int .i64 n] w fun e w' => e = .returned (.bool (inB n 0 3)) ∧ w = w' := by
  go_enter Try.func60, Try.ntmps60
  go_wp2_with (go_at_call 53; refine (in_spec _ _ _ _).mono ?_; rintro e w' ⟨rfl, rfl⟩)
  go_ret
  exact ⟨rfl, rfl⟩
theorem way_impl (n : Int) (w : World) : Calls Try.prog 62 #[.int .i64 n] w fun e w' => e = .returned (.bool (inB n 0 3)) ∧ w = w' := by
  go_enter Try.func62, Try.ntmps62
  go_wp2_with (go_at_call 55; refine (in_impl _ _ _ _).mono ?_; rintro e w' ⟨rfl, rfl⟩)
  go_ret
  exact ⟨rfl, rfl⟩

def okB (a b m : Int) : Bool := inB a 0 4000000000000000000 && (inB b 1 1000000000 && inB m 0 3)
def val (a b m : Int) : Int := if okB a b m then rnd a b m else 0

set_option maxHeartbeats 400000 in
theorem o_spec (a b m : Int) (w : World) : Calls Try.prog 22 #[.int .i64 a, .int .i64 b, .int .i64 m] w fun e w' => e = .returned (.tuple #[.int .i64 (val a b m), .bool (okB a b m)]) ∧ w = w' := by
  unfold val okB
  cases h1 : inB a 0 4000000000000000000
  · go_enter Try.func22, Try.ntmps22
    go_wp2_with (first
      | (go_at_call 53; refine (in_spec _ _ _ _).mono ?_; rintro e w' ⟨rfl, rfl⟩)
      | (go_at_call 60; refine (way_spec _ _).mono ?_; rintro e w' ⟨rfl, rfl⟩))
    go_ret2
    exact ⟨rfl, rfl⟩
  · cases h2 : inB b 1 1000000000
    · go_enter Try.func22, Try.ntmps22
      go_wp2_with (first
        | (go_at_call 53; refine (in_spec _ _ _ _).mono ?_; rintro e w' ⟨rfl, rfl⟩)
        | (go_at_call 60; refine (way_spec _ _).mono ?_; rintro e w' ⟨rfl, rfl⟩))
      go_ret2
      exact ⟨rfl, rfl⟩
    · cases h3 : inB m 0 3
      · go_enter Try.func22, Try.ntmps22
        go_wp2_with (first
          | (go_at_call 53; refine (in_spec _ _ _ _).mono ?_; rintro e w' ⟨rfl, rfl⟩)
          | (go_at_call 60; refine (way_spec _ _).mono ?_; rintro e w' ⟨rfl, rfl⟩))
        go_ret2
        exact ⟨rfl, rfl⟩
      · obtain ⟨a0, a1⟩ := inB_iff.1 h1
        obtain ⟨b0, b1⟩ := inB_iff.1 h2
        obtain ⟨r0, r1⟩ := inB_iff.1 h3
        go_enter Try.func22, Try.ntmps22
        go_wp2_with (first
          | (go_at_call 53; refine (in_spec _ _ _ _).mono ?_; rintro e w' ⟨rfl, rfl⟩)
          | (go_at_call 60; refine (way_spec _ _).mono ?_; rintro e w' ⟨rfl, rfl⟩)
          | (go_at_call 61; refine (round_spec _ _ _ a0 (by omega) b0 (by omega) r0 r1 _).mono ?_; rintro e w' ⟨rfl, rfl⟩))
        go_ret2
        exact ⟨rfl, rfl⟩

set_option maxHeartbeats 400000 in
theorem o_impl (a b m : Int) (w : World) : Calls Try.prog 23 #[.int .i64 a, .int .i64 b, .int .i64 m] w fun e w' => e = .returned (.tuple #[.int .i64 (val a b m), .bool (okB a b m)]) ∧ ∃ n, w' = w.drewN n := by
  unfold val okB
  cases h1 : inB a 0 4000000000000000000
  · go_enter Try.func23, Try.ntmps23
    go_wp2_with (first
      | (go_at_call 55; refine (in_impl _ _ _ _).mono ?_; rintro e w' ⟨rfl, rfl⟩)
      | (go_at_call 62; refine (way_impl _ _).mono ?_; rintro e w' ⟨rfl, rfl⟩))
    go_ret2
    exact ⟨rfl, 0, rfl⟩
  · cases h2 : inB b 1 1000000000
    · go_enter Try.func23, Try.ntmps23
      go_wp2_with (first
        | (go_at_call 55; refine (in_impl _ _ _ _).mono ?_; rintro e w' ⟨rfl, rfl⟩)
        | (go_at_call 62; refine (way_impl _ _).mono ?_; rintro e w' ⟨rfl, rfl⟩))
      go_ret2
      exact ⟨rfl, 0, rfl⟩
    · cases h3 : inB m 0 3
      · go_enter Try.func23, Try.ntmps23
        go_wp2_with (first
          | (go_at_call 55; refine (in_impl _ _ _ _).mono ?_; rintro e w' ⟨rfl, rfl⟩)
          | (go_at_call 62; refine (way_impl _ _).mono ?_; rintro e w' ⟨rfl, rfl⟩))
        go_ret2
        exact ⟨rfl, 0, rfl⟩
      · obtain ⟨a0, a1⟩ := inB_iff.1 h1
        obtain ⟨b0, b1⟩ := inB_iff.1 h2
        obtain ⟨r0, r1⟩ := inB_iff.1 h3
        go_enter Try.func23, Try.ntmps23
        go_wp2_with (first
          | (go_at_call 55; refine (in_impl _ _ _ _).mono ?_; rintro e w' ⟨rfl, rfl⟩)
          | (go_at_call 62; refine (way_impl _ _).mono ?_; rintro e w' ⟨rfl, rfl⟩)
          | (go_at_call 63; refine (round_impl _ _ _ a0 (by omega) b0 (by omega) r0 r1 _).mono ?_; rintro e w' ⟨rfl, n, rfl⟩))
        go_ret2
        exact ⟨rfl, n, rfl⟩

theorem walk (a0 a1 a2 : Int) (w : World) (w0 : (Lit.int .i64 a0).wf = true) (w1 : (Lit.int .i64 a1).wf = true) (w2 : (Lit.int .i64 a2).wf = true) :
    Calls Try.prog 5 #[.int .i64 a0, .int .i64 a1, .int .i64 a2] w fun e w' => e = .returned (.bool true) ∧ Below w.heap.size w w' := by
  clear w0 w1 w2
  cases h : okB a0 a1 a2
  all_goals
    go_enter Try.func5, Try.ntmps5
    go_wp2_with (first
      | (go_at_call 22; refine (o_spec _ _ _ _).mono ?_; rintro e w' ⟨rfl, rfl⟩)
      | (go_at_call 23; refine (o_impl _ _ _ _).mono ?_; rintro e w' ⟨rfl, n, rfl⟩))
    go_ret
    exact ⟨rfl, below_drewN (Below.refl _ _) _⟩
end Go.Proofs.Ytpebdcimbdbbmaa.fnExactRoundOf
