/-
  The walk of the law on TaperOf: it returns true. Conditions: each number fits an int64.
-/
import Derived.Test.YtloffnamjgnkhaaTaper
import Derived.WalkSmall
namespace Go.Proofs.Ytloffnamjgnkhaa.fnExactTaperOf
open Go.RowKit

/-- What both give. -/
def okB (full start rate cents : Int) : Bool := tapB full start rate && inB cents 0 1000000000000
def val (full start rate cents : Int) : Int := if okB full start rate cents then tpr full start rate cents else 0

theorem o_spec (full start rate cents : Int) (w : World) : Calls Try.prog 54 #[.int .i64 full, .int .i64 start, .int .i64 rate, .int .i64 cents] w fun e w' =>
    e = .returned (.tuple #[.int .i64 (val full start rate cents), .bool (okB full start rate cents)]) ∧ w = w' := by
  unfold val okB
  cases h1 : tapB full start rate
  · go_enter Try.func54, Try.ntmps54
    go_wp2_with (go_at_call 87; refine (tapers_spec _ _ _ _).mono ?_; rintro e w' ⟨rfl, rfl⟩)
    go_ret2
    exact ⟨rfl, rfl⟩
  · cases h2 : inB cents 0 1000000000000
    · go_enter Try.func54, Try.ntmps54
      go_wp2_with (first
        | (go_at_call 87; refine (tapers_spec _ _ _ _).mono ?_; rintro e w' ⟨rfl, rfl⟩)
        | (go_at_call 63; refine (cents_spec _ _).mono ?_; rintro e w' ⟨rfl, rfl⟩))
      go_ret2
      exact ⟨rfl, rfl⟩
    · obtain ⟨c0, c1⟩ := inB_iff.1 h2
      go_enter Try.func54, Try.ntmps54
      go_wp2_with (first
        | (go_at_call 87; refine (tapers_spec _ _ _ _).mono ?_; rintro e w' ⟨rfl, rfl⟩)
        | (go_at_call 63; refine (cents_spec _ _).mono ?_; rintro e w' ⟨rfl, rfl⟩)
        | (go_at_call 88; refine (taper_spec _ _ _ _ h1 c0 c1 _).mono ?_; rintro e w' ⟨rfl, rfl⟩))
      go_ret2
      exact ⟨rfl, rfl⟩

theorem o_impl (full start rate cents : Int) (w : World) : Calls Try.prog 55 #[.int .i64 full, .int .i64 start, .int .i64 rate, .int .i64 cents] w fun e w' =>
    e = .returned (.tuple #[.int .i64 (val full start rate cents), .bool (okB full start rate cents)]) ∧ ∃ n, w' = w.drewN n := by
  unfold val okB
  cases h1 : tapB full start rate
  · go_enter Try.func55, Try.ntmps55
    go_wp2_with (go_at_call 89; refine (tapers_impl _ _ _ _).mono ?_; rintro e w' ⟨rfl, rfl⟩)
    go_ret2
    exact ⟨rfl, 0, rfl⟩
  · cases h2 : inB cents 0 1000000000000
    · go_enter Try.func55, Try.ntmps55
      go_wp2_with (first
        | (go_at_call 89; refine (tapers_impl _ _ _ _).mono ?_; rintro e w' ⟨rfl, rfl⟩)
        | (go_at_call 94; refine (cents_impl _ _).mono ?_; rintro e w' ⟨rfl, rfl⟩))
      go_ret2
      exact ⟨rfl, 0, rfl⟩
    · obtain ⟨c0, c1⟩ := inB_iff.1 h2
      go_enter Try.func55, Try.ntmps55
      go_wp2_with (first
        | (go_at_call 89; refine (tapers_impl _ _ _ _).mono ?_; rintro e w' ⟨rfl, rfl⟩)
        | (go_at_call 94; refine (cents_impl _ _).mono ?_; rintro e w' ⟨rfl, rfl⟩)
        | (go_at_call 90; refine (taper_impl _ _ _ _ h1 c0 c1 _).mono ?_; rintro e w' ⟨rfl, n, rfl⟩))
      go_ret2
      exact ⟨rfl, n, rfl⟩

theorem walk (a0 a1 a2 a3 : Int) (w : World) (w0 : (Lit.int .i64 a0).wf = true) (w1 : (Lit.int .i64 a1).wf = true) (w2 : (Lit.int .i64 a2).wf = true) (w3 : (Lit.int .i64 a3).wf = true) :
    Calls Try.prog 17 #[.int .i64 a0, .int .i64 a1, .int .i64 a2, .int .i64 a3] w fun e w' => e = .returned (.bool true) ∧ Below w.heap.size w w' := by
  clear w0 w1 w2 w3
  cases h : okB a0 a1 a2 a3
  all_goals
    go_enter Try.func17, Try.ntmps17
    go_wp2_with (first
      | (go_at_call 54; refine (o_spec _ _ _ _ _).mono ?_; rintro e w' ⟨rfl, rfl⟩)
      | (go_at_call 55; refine (o_impl _ _ _ _ _).mono ?_; rintro e w' ⟨rfl, n, rfl⟩))
    go_ret
    exact ⟨rfl, below_drewN (Below.refl _ _) _⟩
end Go.Proofs.Ytloffnamjgnkhaa.fnExactTaperOf
