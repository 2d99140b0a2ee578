/-
  A number in decimal: the program's function. Conditions: the number is one of 64 bits; Go's powers of ten lie as the library lays them.
-/
import Derived.Test.YtmlocepflcfkmaaDoorDecW
import Derived.Test.YtmlocepflcfkmaaDoorLaid
import Derived.Test.YtmlocepflcfkmaaDoorSh
namespace Go.Proofs.YtmlocepflcfkmaaDoor
set_option linter.unusedVariables false
set_option linter.unusedSimpArgs false
open Go.RowKit Mem Dec

theorem dec_impl2 (n : Int) (h0 : -9223372036854775808 ≤ n) (h1 : n ≤ 9223372036854775807) (w : World) (ht : Tens w) : Calls Tryd.prog 26 #[.int .i64 n] w fun e w' => e = .returned (.string ⟨(Lib.itoa n).toArray⟩) ∧ Kp [] w w' := by
  have HT := Lib.hid ht
  have H0 := Lib.hid h0
  have H1 := Lib.hid h1
  clear ht h0 h1
  go_enter Tryd.func26, Tryd.ntmps26
  go_wp2_with fail
  refine (Tryd.strconv_FormatInt_10 n H0.out H1.out _ HT.out).mono ?_
  rintro e w' ⟨rfl, k, os, rfl⟩
  go_wp2_with fail
  go_ret
  exact ⟨rfl, kp_grow⟩
end Go.Proofs.YtmlocepflcfkmaaDoor
