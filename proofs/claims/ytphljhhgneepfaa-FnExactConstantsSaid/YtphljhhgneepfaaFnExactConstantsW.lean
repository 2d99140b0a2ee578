/-
  The walk of the law on the package's constants: it returns true. Conditions: none.
-/
import Derived.Test.YtphljhhgneepfaaRows
import Derived.WalkKit
namespace Go.Proofs.Ytphljhhgneepfaa.fnExactConstants
open Go.RowKit

theorem walk (w : World) : Calls Try.prog 3 #[] w fun e w' => e = .returned (.bool true) ∧ Below w.heap.size w w' := by
  go_enter Try.func3, Try.ntmps3
  go_wp2
  go_ret
  exact ⟨rfl, Below.refl _ _⟩
end Go.Proofs.Ytphljhhgneepfaa.fnExactConstants
