/-
  What the rows' condition on Go's own tables gives a walk: the powers of ten; that new memory alone leaves them. Conditions: those that each theorem names.
-/
import Derived.Test.YtmlocepflcfkmaaDoorRows
import Derived.Test.YtmlocepflcfkmaaDoorMem
import Derived.Lib.LaidTab
import Derived.Lib.ItoaMem
import Derived.Lib.AppendIntMem
import Derived.LaidMore
import Derived.Stop.Joined
import Derived.MakeChecks
import Derived.Stop.LaidErr
namespace Go.Proofs.YtmlocepflcfkmaaDoor
set_option linter.unusedVariables false
set_option linter.unusedSimpArgs false
open Go.RowKit Mem

/-- The powers of ten lie as the library's text lays them. -/
def Tens (w : World) : Prop := Lib.TabIs Tryd.prog w "internal/strconv.uint64pow10" .u64 Lib.pow10Tab

theorem Tens.kp {w w' : World} (h : Tens w) (hk : Kp [] w w') : Tens w' := Lib.tabBelow_of_tabIs h w' hk.below0

theorem tens_data {H : Type} : (Rows.laid_internal_strconv_uint64pow10 : DataW H) = Lib.tabData .u64 Lib.pow10Tab := rfl

theorem tens_of {l : List (String × DataW Unit)} {W : World} (h : laidMet Tryd.prog (("internal/strconv.uint64pow10", Lib.tabData .u64 Lib.pow10Tab) :: l) W) : Tens W :=
  Lib.tabIs_of_head (g := 1) (t := 116) (e := 76) (n := 20) (by kernel_rfl) (by kernel_rfl) Tryd.underlying116 Tryd.underlying76 (by kernel_rfl) (by kernel_rfl) h

theorem kp_grow {w : World} {k : Nat} {os : Array Obj} : Kp [] w (Go.Sort.grow (w.drewN k) os) := Kp.of_below (Lib.below_grow _ w (Nat.le_refl _) k os)
end Go.Proofs.YtmlocepflcfkmaaDoor
