/-
  The float32 with some bits; the law's last steps on two float32. Conditions: the number is one of 32 bits.
-/
import Derived.Test.YtmlocepflcfkmaaDoorSame
import Derived.Test.YtmlocepflcfkmaaDoorIn
namespace Go.Proofs.YtmlocepflcfkmaaDoor
open Go.RowKit Flo

theorem call_from32 (n : Int) (w : World) : (callFunc 60 #[.int .u32 n]).run Tryd.prog w = .ok (.value (.float .f32 n.toNat)) w := by
  rw [run_callFunc_extern Tryd.func60 (by kernel_rfl) (by kernel_rfl) (by kernel_rfl) (e := Extern.MathFloatBits.float32frombits) (by kernel_rfl)]
  rfl

theorem from_low (n : Int) (h0 : 0 ≤ n) (h1 : n ≤ 4294967295) (w : World) : Calls Tryd.prog 57 #[.int .i64 n] w fun e w' => e = .returned (.float .f32 n.toNat) ∧ w = w' := by
  have hc := call_from32
  go_enter Tryd.func57, Tryd.ntmps57
  go_wp2
  go_ret
  exact ⟨rfl, rfl⟩

theorem rep_nat (n : Int) (h1 : n ≤ 4294967295) : Rep .f32 (tell .f32 n.toNat) n.toNat := rep_tell _ _ (by show n.toNat < 4294967296; omega)
end Go.Proofs.YtmlocepflcfkmaaDoor
