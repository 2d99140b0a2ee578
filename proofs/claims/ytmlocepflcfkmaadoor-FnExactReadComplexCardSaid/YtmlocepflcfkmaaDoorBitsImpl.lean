/-
  The program's function on a float32's bits. Conditions: the arguments are floats.
-/
import Derived.Test.YtmlocepflcfkmaaDoorBits
namespace Go.Proofs.YtmlocepflcfkmaaDoor
open Go.RowKit Flo

theorem bits_impl {b : Nat} {v : Option Nat} (h : Rep .f32 v b) (w : World) : Calls Tryd.prog 67 #[.float .f32 b] w fun e w' => e = .returned (.int .i64 (bitsI b)) ∧ w = w' := by
  have hc := call_bits32
  have hl := lt32 h
  cases hn : nan .f32 b
  · have ho := order_self hn
    have HB := Lib.hid (bitsI_num hn)
    go_enter Tryd.func67, Tryd.ntmps67
    go_wp2
    go_ret
    exact ⟨ret_i64 HB.out.symm, rfl⟩
  · have ho := order_nan hn
    have HB := Lib.hid (bitsI_nan hn)
    go_enter Tryd.func67, Tryd.ntmps67
    go_wp2
    go_ret
    exact ⟨ret_i64 HB.out.symm, rfl⟩
end Go.Proofs.YtmlocepflcfkmaaDoor
