/-
  The walk of the law on TaperEnd: it returns true. Conditions: each number fits an int64.
-/
import Derived.Test.YtloffnamjgnkhaaEnd
namespace Go.Proofs.Ytloffnamjgnkhaa.fnExactTaperEnd
open Go.RowKit Mem

theorem walk (a0 a1 a2 : Int) (w : World) (_ : (Lit.int .i64 a0).wf = true) (_ : (Lit.int .i64 a1).wf = true) (_ : (Lit.int .i64 a2).wf = true) :
    Calls Try.prog 16 #[.int .i64 a0, .int .i64 a1, .int .i64 a2] w fun e w' => e = .returned (.bool true) ∧ Below w.heap.size w w' := by
  go_enter Try.func16, Try.ntmps16
  go_wp2_with fail
  refine (end_spec a0 a1 a2 _).mono ?_
  rintro e w' ⟨rfl, rfl⟩
  go_wp2_with fail
  refine (end_impl a0 a1 a2 _).mono ?_
  rintro e w' ⟨rfl, hb⟩
  have HB := Lib.hid hb
  clear hb
  go_wp2_with fail
  go_ret
  exact ⟨rfl, HB.out.below0⟩
end Go.Proofs.Ytloffnamjgnkhaa.fnExactTaperEnd
