/-
  The walk of the law on ReadDecimal: it returns true. Conditions: Go's powers of ten and its two errors of numbers lie as the library lays them.
-/
import Derived.Test.YtmlocepflcfkmaaDoorRd
namespace Go.Proofs.YtmlocepflcfkmaaDoor.fnExactReadDecimal
set_option linter.unusedVariables false
set_option linter.unusedSimpArgs false
open Go.RowKit Mem Dec

theorem walk (a0 : ByteArray) (w : World) (w0 : a0.size ≤ maxLen) (ht : Tens w) (he : Errs w) :
    Calls Tryd.prog 9 #[.string a0] w fun e w' => e = .returned (.bool true) ∧ Below w.heap.size w w' := by
  have HT := Lib.hid ht
  have HE := Lib.hid he
  unfold maxLen at w0
  have HW := Lib.hid w0
  clear ht he w0
  by_cases hl : a0.size ≤ 1048576
  · have hl2 : ¬ (1048576 : Int) < a0.size := by omega
    have HL := Lib.hid hl
    clear hl
    go_enter Tryd.func9, Tryd.ntmps9
    go_wp2_with fail
    refine (value_pub a0 HL.out _).mono ?_
    rintro e w1 ⟨n, ok, rfl, hr1, hk1⟩
    have R1 := Lib.hid hr1
    have K1 := Lib.hid hk1
    clear hr1 hk1
    go_wp2_with fail
    refine (value_impl a0 HL.out _ (HT.out.kp K1.out) (HE.out.kp K1.out)).mono ?_
    rintro e w2 ⟨n2, ok2, rfl, hr2, hk2⟩
    obtain ⟨rfl, rfl⟩ := R1.out.uniq hr2
    have K2 := Lib.hid (K1.out.tr hk2)
    clear hr2 hk2
    cases ok
    all_goals
      go_wp2_with fail
      go_ret
      exact ⟨rfl, K2.out.below0⟩
  · have hl2 : (1048576 : Int) < a0.size := by omega
    clear hl
    go_enter Tryd.func9, Tryd.ntmps9
    go_wp2_with fail
    go_ret
    exact ⟨rfl, Below.refl _ _⟩
end Go.Proofs.YtmlocepflcfkmaaDoor.fnExactReadDecimal
