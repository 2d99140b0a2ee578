/-
  The walk of the law on CheckOf: both functions give the check number of a text; the law returns true. Conditions: the text's length is one that Go allows.
-/
import Derived.Test.YtphljhhgneepfaaIn
import Derived.Lib.Hide
namespace Go.Proofs.Ytphljhhgneepfaa.fnExactCheckOf
open Go.RowKit

def stp (n : Int) (c : UInt8) : Int := (971 * n + (c.toNat : Int) + 229) % 65003
def chk (n : Int) (l : List UInt8) : Int := l.foldl stp n
/-- The number behind the first k bytes. -/
def Upto (n : Int) (l : List UInt8) (k : Nat) (m : Int) : Prop := m = chk n (l.take k)
def In65 (m : Int) : Prop := 0 ≤ m ∧ m ≤ 65002

theorem up0 (n : Int) (l : List UInt8) : Upto n l 0 n := by simp [Upto, chk]
theorem up1 {n : Int} {l : List UInt8} {k : Nat} {m : Int} (h : Upto n l k m) (hk : k < l.length) : Upto n l (k + 1) (stp m l[k]) := by
  unfold Upto at *
  rw [List.take_succ_eq_append_getElem hk, h]
  simp only [chk, List.foldl_append, List.foldl_cons, List.foldl_nil]
theorem upN {n : Int} {l : List UInt8} {k : Nat} {m : Int} (h : Upto n l k m) (hk : l.length ≤ k) : m = chk n l := by
  unfold Upto at h
  rw [List.take_of_length_le hk] at h
  exact h
theorem stp_in (n : Int) (c : UInt8) : 0 ≤ stp n c ∧ stp n c ≤ 65002 := by unfold stp; omega
theorem num (k : IntKind) {a b : Int} (h : a = b) : Value.int k a = Value.int k b := by rw [h]
theorem ret_int {a b : Int} (h : a = b) : Ending.returned (.int .i64 a) = .returned (.int .i64 b) := by rw [h]
theorem ret_two {a b : Int} (h : a = b) (x : Bool) : Ending.returned (.tuple #[.int .i64 a, .bool x]) = .returned (.tuple #[.int .i64 b, .bool x]) := by rw [h]
theorem byte_le (c : UInt8) : 0 ≤ (c.toNat : Int) ∧ (c.toNat : Int) ≤ 255 := by have := c.toNat_lt; omega

set_option maxHeartbeats 400000 in
theorem check_spec (n : Int) (h0 : 0 ≤ n) (h1 : n ≤ 65002) (s : ByteArray) (w : World) (hs : s.size ≤ maxLen) : Calls Try.prog 39 #[.int .i64 n, .string s] w fun e w' => e = .returned (.int .i64 (chk n s.data.toList)) ∧ w = w' := by
  unfold maxLen at hs
  have hl : s.data.toList.length = s.size := Array.length_toList
  have HL := Lib.hid hl; clear hl
  go_enter Try.func39, Try.ntmps39
  go_wp2
  go_loop [0, 5] (fun v i => ∃ (k : Nat) (m : Int), k ≤ s.size ∧ i = .int .i64 k ∧ v = .int .i64 m ∧ 0 ≤ m ∧ m ≤ 65002 ∧ Upto n s.data.toList k m) (fun _ i => s.size - (intOf i).toNat)
  case atStart => exact ⟨0, n, Nat.zero_le _, rfl, rfl, h0, h1, up0 _ _⟩
  case round =>
    obtain ⟨k, m, hk, rfl, rfl, hm0, hm1, hu⟩ := hrel
    by_cases hlt : k < s.size
    · have hc := byte_le s[k]
      go_wp2
      go_round
      case rel => exact ⟨k + 1, stp m s[k], by omega, by go_num, num _ (by unfold stp; rfl), (stp_in _ _).1, (stp_in _ _).2, up1 hu (by rw [HL.out]; exact hlt)⟩
      case measure => simp [intOf]; omega
    · go_wp2
      go_ret
      exact ⟨ret_int (upN hu (by rw [HL.out]; omega)), rfl⟩

set_option maxHeartbeats 400000 in
theorem check_impl (n : Int) (h0 : 0 ≤ n) (h1 : n ≤ 65002) (s : ByteArray) (w : World) (hs : s.size ≤ maxLen) : Calls Try.prog 28 #[.int .i64 n, .string s] w fun e w' => e = .returned (.tuple #[.int .i64 (chk n s.data.toList), .bool true]) ∧ w = w' := by
  unfold maxLen at hs
  have hl : s.data.toList.length = s.size := Array.length_toList
  have HL := Lib.hid hl; clear hl
  have hb : inB n 0 65002 = true := inB_mk h0 h1
  go_enter Try.func28, Try.ntmps28
  go_wp2_with (go_at_call 40; refine (in_impl _ _ _ _).mono ?_; rintro e w' ⟨rfl, rfl⟩)
  go_loop [0, 12] (fun v i => ∃ (k : Nat) (m : Int), k ≤ s.size ∧ i = .int .i64 k ∧ v = .int .i64 m ∧ 0 ≤ m ∧ m ≤ 65002 ∧ Upto n s.data.toList k m) (fun _ i => s.size - (intOf i).toNat)
  case atStart => exact ⟨0, n, Nat.zero_le _, rfl, rfl, h0, h1, up0 _ _⟩
  case round =>
    obtain ⟨k, m, hk, rfl, rfl, hm0, hm1, hu⟩ := hrel
    by_cases hlt : k < s.size
    · have hc := byte_le s[k]
      go_wp2
      go_round
      case rel => exact ⟨k + 1, stp m s[k], by omega, by go_num, num _ (by unfold stp; rfl), (stp_in _ _).1, (stp_in _ _).2, up1 hu (by rw [HL.out]; exact hlt)⟩
      case measure => simp [intOf]; omega
    · go_wp2
      go_ret2
      exact ⟨ret_two (upN hu (by rw [HL.out]; omega)) true, rfl⟩

theorem check_impl_no (n : Int) (hb : inB n 0 65002 = false) (s : ByteArray) (w : World) : Calls Try.prog 28 #[.int .i64 n, .string s] w fun e w' => e = .returned (.tuple #[.int .i64 0, .bool false]) ∧ w = w' := by
  go_enter Try.func28, Try.ntmps28
  go_wp2_with (go_at_call 40; refine (in_impl _ _ _ _).mono ?_; rintro e w' ⟨rfl, rfl⟩)
  go_ret2
  exact ⟨rfl, rfl⟩

theorem out_spec (n : Int) (h0 : 0 ≤ n) (h1 : n ≤ 65002) (s : ByteArray) (w : World) (hs : s.size ≤ maxLen) : Calls Try.prog 27 #[.int .i64 n, .string s] w fun e w' => e = .returned (.tuple #[.int .i64 (chk n s.data.toList), .bool true]) ∧ w = w' := by
  have hb : inB n 0 65002 = true := inB_mk h0 h1
  go_enter Try.func27, Try.ntmps27
  go_wp2_with (first
    | (go_at_call 38; refine (in_spec _ _ _ _).mono ?_; rintro e w' ⟨rfl, rfl⟩)
    | (go_at_call 39; refine (check_spec _ h0 h1 _ _ hs).mono ?_; rintro e w' ⟨rfl, rfl⟩))
  go_ret2
  exact ⟨rfl, rfl⟩

theorem out_spec_no (n : Int) (hb : inB n 0 65002 = false) (s : ByteArray) (w : World) : Calls Try.prog 27 #[.int .i64 n, .string s] w fun e w' => e = .returned (.tuple #[.int .i64 0, .bool false]) ∧ w = w' := by
  go_enter Try.func27, Try.ntmps27
  go_wp2_with (go_at_call 38; refine (in_spec _ _ _ _).mono ?_; rintro e w' ⟨rfl, rfl⟩)
  go_ret2
  exact ⟨rfl, rfl⟩

theorem walk (a0 : Int) (a1 : ByteArray) (w : World) (w0 : (Lit.int .i64 a0).wf = true) (w1 : a1.size ≤ maxLen) :
    Calls Try.prog 11 #[.int .i64 a0, .string a1] w fun e w' => e = .returned (.bool true) ∧ Below w.heap.size w w' := by
  by_cases hb : a1.size ≤ 1048576
  · cases h : inB a0 0 65002
    · go_enter Try.func11, Try.ntmps11
      go_wp2_with (first
        | (go_at_call 27; refine (out_spec_no _ h _ _).mono ?_; rintro e w' ⟨rfl, rfl⟩)
        | (go_at_call 28; refine (check_impl_no _ h _ _).mono ?_; rintro e w' ⟨rfl, rfl⟩))
      go_ret
      exact ⟨rfl, Below.refl _ _⟩
    · obtain ⟨h0, h1⟩ := inB_iff.1 h
      go_enter Try.func11, Try.ntmps11
      go_wp2_with (first
        | (go_at_call 27; refine (out_spec _ h0 h1 _ _ w1).mono ?_; rintro e w' ⟨rfl, rfl⟩)
        | (go_at_call 28; refine (check_impl _ h0 h1 _ _ w1).mono ?_; rintro e w' ⟨rfl, rfl⟩))
      go_ret
      exact ⟨rfl, Below.refl _ _⟩
  · go_enter Try.func11, Try.ntmps11
    go_wp2_with fail
    go_ret
    exact ⟨rfl, Below.refl _ _⟩
end Go.Proofs.Ytphljhhgneepfaa.fnExactCheckOf
