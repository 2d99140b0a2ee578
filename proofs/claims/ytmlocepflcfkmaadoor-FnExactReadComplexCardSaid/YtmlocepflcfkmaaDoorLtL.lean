/-
  Numbers in decimal with commas between them: the plain law. Conditions: those that each theorem names.
-/
import Derived.Test.YtmlocepflcfkmaaDoorRdL
import Derived.Lib.Join
namespace Go.Proofs.YtmlocepflcfkmaaDoor
namespace Dec
open Go.Lib

/-- The first k numbers' text. -/
def tx (zs : List Int) (k : Nat) : List UInt8 := join ((zs.take k).map itoa) [44]

theorem join_snoc (xs : List (List UInt8)) (h : xs ≠ []) (y sep : List UInt8) : join (xs ++ [y]) sep = join xs sep ++ (sep ++ y) := by
  cases xs with
  | nil => exact absurd rfl h
  | cons x r =>
    rw [List.cons_append, join_cons, join_cons]
    unfold joinTail
    simp
theorem tx_one {zs : List Int} {x : Int} (h : zs[0]? = some x) : tx zs 1 = itoa x := by
  unfold tx
  cases zs with
  | nil => cases h
  | cons z r =>
    simp at h
    subst h
    simp [join_one]
theorem tx_succ {zs : List Int} {k : Nat} {x : Int} (hk : 0 < k) (h : zs[k]? = some x) : tx zs (k + 1) = tx zs k ++ (44 :: itoa x) := by
  have hlt : k < zs.length := (List.getElem?_eq_some_iff.1 h).1
  unfold tx
  rw [List.take_add_one, h, Option.toList_some, List.map_append, List.map_cons, List.map_nil, join_snoc]
  · rfl
  · intro e
    have h2 : ((zs.take k).map itoa).length = 0 := by rw [e]; rfl
    rw [List.length_map, List.length_take] at h2
    omega
theorem tx_len {zs : List Int} (hz : ∀ z ∈ zs, Val z) : ∀ k, (tx zs k).length ≤ 18 * k := by
  intro k
  induction k with
  | zero => simp [tx, join_nil]
  | succ k ih =>
    cases h : zs[k]? with
    | none =>
      have hge : zs.length ≤ k := List.getElem?_eq_none_iff.1 h
      have : tx zs (k + 1) = tx zs k := by unfold tx; rw [List.take_of_length_le (by omega), List.take_of_length_le hge]
      rw [this]; omega
    | some x =>
      have hx := (itoa_len (hz x (List.mem_of_getElem? h))).2
      rcases Nat.eq_zero_or_pos k with rfl | hk
      · rw [tx_one h]; omega
      · rw [tx_succ hk h, List.length_append, List.length_cons]
        omega
end Dec
end Go.Proofs.YtmlocepflcfkmaaDoor
