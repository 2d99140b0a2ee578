/-
  Numbers' bits in hexadecimal with commas between them: the plain law. Conditions: those that each theorem names.
-/
import Derived.Test.YtmlocepflcfkmaaDoorLtL
import Derived.Test.YtmlocepflcfkmaaDoorHexL
import Derived.Test.YtmlocepflcfkmaaDoorBits
namespace Go.Proofs.YtmlocepflcfkmaaDoor
namespace Hex
open Go.Lib Dec

/-- The text of a number's bits. -/
def cbt (z : Nat) : List UInt8 := hexL (bitsI z).toNat
theorem cbt_len (z : Nat) : (cbt z).length = 8 := hexL_len _
/-- The first k numbers' text. -/
def txH (zs : List Nat) (k : Nat) : List UInt8 := join ((zs.take k).map cbt) [44]
theorem txH_one {zs : List Nat} {x : Nat} (h : zs[0]? = some x) : txH zs 1 = cbt x := by
  unfold txH
  cases zs with
  | nil => cases h
  | cons z r =>
    simp at h
    subst h
    simp [join_one]
theorem txH_succ {zs : List Nat} {k : Nat} {x : Nat} (hk : 0 < k) (h : zs[k]? = some x) : txH zs (k + 1) = txH zs k ++ (44 :: cbt x) := by
  have hlt : k < zs.length := (List.getElem?_eq_some_iff.1 h).1
  unfold txH
  rw [List.take_add_one, h, Option.toList_some, List.map_append, List.map_cons, List.map_nil, join_snoc]
  · rfl
  · intro e
    have h2 : ((zs.take k).map cbt).length = 0 := by rw [e]; rfl
    rw [List.length_map, List.length_take] at h2
    omega
theorem txH_len {zs : List Nat} : ∀ k, (txH zs k).length ≤ 9 * k := by
  intro k
  induction k with
  | zero => simp [txH, join_nil]
  | succ k ih =>
    cases h : zs[k]? with
    | none =>
      have hge : zs.length ≤ k := List.getElem?_eq_none_iff.1 h
      have : txH zs (k + 1) = txH zs k := by unfold txH; rw [List.take_of_length_le (by omega), List.take_of_length_le hge]
      rw [this]; omega
    | some x =>
      have hx := cbt_len x
      rcases Nat.eq_zero_or_pos k with rfl | hk
      · rw [txH_one h]; omega
      · rw [txH_succ hk h, List.length_append, List.length_cons]
        omega
end Hex
end Go.Proofs.YtmlocepflcfkmaaDoor
