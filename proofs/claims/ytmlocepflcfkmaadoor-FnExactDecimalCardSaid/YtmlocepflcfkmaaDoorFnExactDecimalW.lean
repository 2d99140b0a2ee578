/-
  The walk of the law on Decimal: it returns true. Conditions: the number is one of 64 bits; Go's powers of ten lie as the library lays them.
-/
import Derived.Test.YtmlocepflcfkmaaDoorDecW
import Derived.Test.YtmlocepflcfkmaaDoorLaid
import Derived.Test.YtmlocepflcfkmaaDoorShDec
namespace Go.Proofs.YtmlocepflcfkmaaDoor.fnExactDecimal
set_option linter.unusedVariables false
set_option linter.unusedSimpArgs false
open Go.RowKit Mem

theorem dec_impl (n : Int) (h0 : -9223372036854775808 ≤ n) (h1 : n ≤ 9223372036854775807) (w : World) (ht : Tens w) : Calls Tryd.prog 26 #[.int .i64 n] w fun e w' => e = .returned (.string ⟨(Lib.itoa n).toArray⟩) ∧ Kp [] w w' := by
  have HT := Lib.hid ht
  have H0 := Lib.hid h0
  have H1 := Lib.hid h1
  clear ht h0 h1
  go_enter Tryd.func26, Tryd.ntmps26
  go_wp2_with fail
  refine (Tryd.strconv_FormatInt_10 n H0.out H1.out _ HT.out).mono ?_
  rintro e w' ⟨rfl, k, os, rfl⟩
  go_wp2_with fail
  go_ret
  exact ⟨rfl, kp_grow⟩

theorem walk (a0 : Int) (w : World) (w0 : (Lit.int .i64 a0).wf = true) (ht : Tens w) :
    Calls Tryd.prog 6 #[.int .i64 a0] w fun e w' => e = .returned (.bool true) ∧ Below w.heap.size w w' := by
  have hb : -9223372036854775808 ≤ a0 ∧ a0 ≤ 9223372036854775807 := by
    simpa [Lit.wf, IntKind.min, IntKind.max, IntKind.signed, IntKind.bits] using w0
  have HB := Lib.hid hb
  have HT := Lib.hid ht
  clear hb ht w0
  obtain ⟨S, hS⟩ : ∃ S : ByteArray, (⟨(Lib.itoa a0).toArray⟩ : ByteArray) = S := ⟨_, rfl⟩
  have hs : ∀ w, Calls Tryd.prog 25 #[.int .i64 a0] w fun e w' => e = .returned (.string S) ∧ Kp [] w w' := fun w => by
    go_enter Tryd.func25, Tryd.ntmps25
    go_wp2_with fail
    refine (dec_spec a0 HB.out.1 HB.out.2 _).mono ?_
    rw [hS]
    rintro e w' ⟨rfl, hk⟩
    have HK := Lib.hid hk
    clear hk
    go_wp2_with fail
    go_ret
    exact ⟨rfl, HK.out⟩
  have HS := Lib.hid hs
  have HSS := Lib.hid hS
  clear hs hS
  go_enter Tryd.func6, Tryd.ntmps6
  go_wp2_with fail
  refine (HS.out _).mono ?_
  rintro e w1 ⟨rfl, hk1⟩
  have K1 := Lib.hid hk1
  clear hk1
  go_wp2_with fail
  refine (dec_impl a0 HB.out.1 HB.out.2 _ (HT.out.kp K1.out)).mono ?_
  rw [HSS.out]
  rintro e w2 ⟨rfl, hk2⟩
  have K2 := Lib.hid (K1.out.tr hk2)
  clear hk2
  go_wp2_with fail
  go_ret
  exact ⟨rfl, K2.out.below0⟩
end Go.Proofs.YtmlocepflcfkmaaDoor.fnExactDecimal
