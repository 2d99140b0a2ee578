/-
  The walk of the law on IsName: both functions answer whether a text has 1 to 8 bytes from a to z; the law returns true. Conditions: the text's length is one that Go allows.
-/
import Derived.Test.YtphljhhgneepfaaRows
import Derived.WalkKit
import Derived.Lib.Hide
namespace Go.Proofs.Ytphljhhgneepfaa.fnExactIsName
open Go.RowKit

theorem ret_bool {a b : Bool} (h : a = b) : Ending.returned (.bool a) = .returned (.bool b) := by rw [h]
def letterB (c : UInt8) : Bool := decide (97 ≤ c.toNat) && decide (c.toNat ≤ 122)
def nameB (l : List UInt8) : Bool := l.all letterB && (decide (1 ≤ l.length) && decide (l.length ≤ 8))
def OkTo (l : List UInt8) (k : Nat) : Prop := (l.take k).all letterB = true

theorem bad {l : List UInt8} {k : Nat} (h : k < l.length) (hb : (l[k].toNat : Int) < 97 ∨ 122 < (l[k].toNat : Int)) : nameB l = false := by
  have e : l.all letterB = false := by
    rw [List.all_eq_false]
    refine ⟨l[k], List.getElem_mem h, ?_⟩
    simp [letterB]
    omega
  simp [nameB, e]
theorem ok_succ {l : List UInt8} {k : Nat} (ho : OkTo l k) (h : k < l.length) (hb : 97 ≤ (l[k].toNat : Int) ∧ (l[k].toNat : Int) ≤ 122) : OkTo l (k + 1) := by
  unfold OkTo at *
  rw [List.take_succ_eq_append_getElem h, List.all_append, ho]
  simp [letterB]
  omega
theorem good {l : List UInt8} (ho : OkTo l l.length) : nameB l = (decide (1 ≤ l.length) && decide (l.length ≤ 8)) := by
  unfold OkTo at ho
  rw [List.take_of_length_le (Nat.le_refl _)] at ho
  simp [nameB, ho]

set_option maxHeartbeats 400000 in
theorem name_spec (s : ByteArray) (w : World) (hs : s.size ≤ maxLen) : Calls Try.prog 19 #[.string s] w fun e w' => e = .returned (.bool (nameB s.data.toList)) ∧ w = w' := by
  unfold maxLen at hs
  have hl : s.data.toList.length = s.size := Array.length_toList
  have HL := Lib.hid hl; clear hl
  go_enter Try.func19, Try.ntmps19
  go_wp2
  go_loop [3] (fun i => ∃ k : Nat, k ≤ s.size ∧ i = .int .i64 k ∧ OkTo s.data.toList k) (fun i => s.size - (intOf i).toNat)
  case atStart => exact ⟨0, Nat.zero_le _, rfl, rfl⟩
  case round =>
    obtain ⟨k, hk, rfl, hok⟩ := hrel
    by_cases hlt : k < s.size
    · have he : s.data.toList[k]'(by rw [HL.out]; exact hlt) = s[k] := rfl
      have HE := Lib.hid he; clear he
      by_cases h1 : (s[k].toNat : Int) < 97
      · go_wp2
        go_ret
        exact ⟨ret_bool (bad (k := k) (by rw [HL.out]; exact hlt) (by rw [HE.out]; omega)).symm, rfl⟩
      · by_cases h2 : 122 < (s[k].toNat : Int)
        · go_wp2
          go_ret
          exact ⟨ret_bool (bad (k := k) (by rw [HL.out]; exact hlt) (by rw [HE.out]; omega)).symm, rfl⟩
        · go_wp2
          go_round
          case rel => exact ⟨k + 1, by omega, by go_num, ok_succ hok (by rw [HL.out]; exact hlt) (by rw [HE.out]; omega)⟩
          case measure => simp [intOf]; omega
    · obtain rfl : s.size = k := by omega
      have HN := Lib.hid (good (l := s.data.toList) (by rw [HL.out]; exact hok)); clear hok
      rw [HL.out] at HN
      by_cases h3 : 1 ≤ s.size
      · by_cases h4 : s.size ≤ 8
        · have HT := Lib.hid (show (decide (1 ≤ s.size) && decide (s.size ≤ 8)) = true by simp [h3, h4])
          go_wp2
          go_ret
          exact ⟨ret_bool (by first | (rw [HN.out, HT.out]; done) | (rw [HN.out, HT.out]; simp; omega)), rfl⟩
        · have HT := Lib.hid (show (decide (1 ≤ s.size) && decide (s.size ≤ 8)) = false by simp [h4])
          go_wp2
          go_ret
          exact ⟨ret_bool (by first | (rw [HN.out, HT.out]; done) | (rw [HN.out, HT.out]; simp; omega)), rfl⟩
      · have HT := Lib.hid (show (decide (1 ≤ s.size) && decide (s.size ≤ 8)) = false by simp [h3])
        go_wp2
        go_ret
        exact ⟨ret_bool (by first | (rw [HN.out, HT.out]; done) | (rw [HN.out, HT.out]; simp; omega)), rfl⟩

set_option maxHeartbeats 400000 in
theorem name_impl (s : ByteArray) (w : World) (hs : s.size ≤ maxLen) : Calls Try.prog 20 #[.string s] w fun e w' => e = .returned (.bool (nameB s.data.toList)) ∧ w = w' := by
  unfold maxLen at hs
  have hl : s.data.toList.length = s.size := Array.length_toList
  have HL := Lib.hid hl; clear hl
  go_enter Try.func20, Try.ntmps20
  go_wp2
  go_loop [6] (fun i => ∃ k : Nat, k ≤ s.size ∧ i = .int .i64 k ∧ OkTo s.data.toList k) (fun i => s.size - (intOf i).toNat)
  case atStart => exact ⟨0, Nat.zero_le _, rfl, rfl⟩
  case round =>
    obtain ⟨k, hk, rfl, hok⟩ := hrel
    by_cases hlt : k < s.size
    · have he : s.data.toList[k]'(by rw [HL.out]; exact hlt) = s[k] := rfl
      have HE := Lib.hid he; clear he
      by_cases h1 : (s[k].toNat : Int) < 97
      · go_wp2
        go_ret
        exact ⟨ret_bool (bad (k := k) (by rw [HL.out]; exact hlt) (by rw [HE.out]; omega)).symm, rfl⟩
      · by_cases h2 : 122 < (s[k].toNat : Int)
        · go_wp2
          go_ret
          exact ⟨ret_bool (bad (k := k) (by rw [HL.out]; exact hlt) (by rw [HE.out]; omega)).symm, rfl⟩
        · go_wp2
          go_round
          case rel => exact ⟨k + 1, by omega, by go_num, ok_succ hok (by rw [HL.out]; exact hlt) (by rw [HE.out]; omega)⟩
          case measure => simp [intOf]; omega
    · obtain rfl : s.size = k := by omega
      have HN := Lib.hid (good (l := s.data.toList) (by rw [HL.out]; exact hok)); clear hok
      rw [HL.out] at HN
      by_cases h3 : 1 ≤ s.size
      · by_cases h4 : s.size ≤ 8
        · have HT := Lib.hid (show (decide (1 ≤ s.size) && decide (s.size ≤ 8)) = true by simp [h3, h4])
          go_wp2
          go_ret
          exact ⟨ret_bool (by first | (rw [HN.out, HT.out]; done) | (rw [HN.out, HT.out]; simp; omega)), rfl⟩
        · have HT := Lib.hid (show (decide (1 ≤ s.size) && decide (s.size ≤ 8)) = false by simp [h4])
          go_wp2
          go_ret
          exact ⟨ret_bool (by first | (rw [HN.out, HT.out]; done) | (rw [HN.out, HT.out]; simp; omega)), rfl⟩
      · have HT := Lib.hid (show (decide (1 ≤ s.size) && decide (s.size ≤ 8)) = false by simp [h3])
        go_wp2
        go_ret
        exact ⟨ret_bool (by first | (rw [HN.out, HT.out]; done) | (rw [HN.out, HT.out]; simp; omega)), rfl⟩

theorem walk (a0 : ByteArray) (w : World) (w0 : a0.size ≤ maxLen) : Calls Try.prog 7 #[.string a0] w fun e w' => e = .returned (.bool true) ∧ Below w.heap.size w w' := by
  by_cases hb : a0.size ≤ 1048576
  · go_enter Try.func7, Try.ntmps7
    go_wp2_with (first
      | (go_at_call 19; refine (name_spec _ _ w0).mono ?_; rintro e w' ⟨rfl, rfl⟩)
      | (go_at_call 20; refine (name_impl _ _ w0).mono ?_; rintro e w' ⟨rfl, rfl⟩))
    go_ret
    exact ⟨rfl, Below.refl _ _⟩
  · go_enter Try.func7, Try.ntmps7
    go_wp2_with fail
    go_ret
    exact ⟨rfl, Below.refl _ _⟩
end Go.Proofs.Ytphljhhgneepfaa.fnExactIsName
