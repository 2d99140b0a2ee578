/-
  A rounded quotient: the reference's and the program's own function give the same. Conditions: the dividend is not negative and not too great, the divisor is positive, the way of rounding is one.
-/
import Derived.Test.YtloffnamjgnkhaaRows
import Derived.WalkKit
import Derived.Deep.QuietTactic
import Derived.BigQuiet
import Derived.Lib.Hide
namespace Go.Proofs.Ytloffnamjgnkhaa
open Go.RowKit

theorem ret_int {a b : Int} (h : a = b) : Ending.returned (.int .i64 a) = .returned (.int .i64 b) := by rw [h]

/-- A quotient, rounded down (0), to the nearest and from the middle up (1) or to an even one (2), up (3). -/
def rnd (a b m : Int) : Int :=
  if m = 1 then (if b - a % b ≤ a % b then a / b + 1 else a / b)
  else if m = 2 then (if b - a % b < a % b ∨ (a % b = b - a % b ∧ a / b % 2 = 1) then a / b + 1 else a / b)
  else if m = 3 then (if 0 < a % b then a / b + 1 else a / b)
  else a / b

theorem rnd_bd (a b m : Int) (ha : 0 ≤ a) (hb : 1 ≤ b) : 0 ≤ rnd a b m ∧ rnd a b m ≤ a / b + 1 := by
  have q0 : 0 ≤ a / b := Int.ediv_nonneg ha (by omega)
  unfold rnd
  repeat' split
  all_goals omega

set_option maxHeartbeats 1000000 in
theorem round_spec (a b m : Int) (ha : 0 ≤ a) (ha2 : a ≤ 9000000000000000000) (hb : 1 ≤ b) (hb2 : b ≤ 1000000000000) (hm : 0 ≤ m) (hm2 : m ≤ 3) (w : World) :
    Calls Try.prog 91 #[.int .i64 a, .int .i64 b, .int .i64 m] w fun e w' => e = .returned (.int .i64 (rnd a b m)) ∧ w = w' := by
  have q0 : 0 ≤ a / b := Int.ediv_nonneg ha (by omega)
  have q1 : a / b ≤ a := Int.ediv_le_self _ ha
  have q2 : a / b ≤ 9000000000000000000 := by omega
  have r0 : 0 ≤ a % b := Int.emod_nonneg a (by omega)
  have r1 : a % b < b := Int.emod_lt_of_pos a (by omega)
  have hbz : (b == 0) = false := by simp; omega
  rcases (show m = 0 ∨ m = 1 ∨ m = 2 ∨ m = 3 by omega) with rfl | rfl | rfl | rfl
  · have HT := Lib.hid (show rnd a b 0 = a / b by simp [rnd])
    go_enter Try.func91, Try.ntmps91
    go_wp2
    go_ret
    exact ⟨ret_int HT.out.symm, rfl⟩
  · by_cases h1 : b - a % b ≤ a % b
    · have HT := Lib.hid (show rnd a b 1 = a / b + 1 by simp [rnd, h1])
      go_enter Try.func91, Try.ntmps91
      go_wp2
      go_ret
      exact ⟨ret_int HT.out.symm, rfl⟩
    · have HT := Lib.hid (show rnd a b 1 = a / b by simp [rnd, h1])
      go_enter Try.func91, Try.ntmps91
      go_wp2
      go_ret
      exact ⟨ret_int HT.out.symm, rfl⟩
  · by_cases h1 : b - a % b < a % b
    · have HT := Lib.hid (show rnd a b 2 = a / b + 1 by simp [rnd, h1])
      go_enter Try.func91, Try.ntmps91
      go_wp2
      go_ret
      exact ⟨ret_int HT.out.symm, rfl⟩
    · by_cases h2 : a % b = b - a % b
      · by_cases h3 : a / b % 2 = 1
        · have HT := Lib.hid (show rnd a b 2 = a / b + 1 by unfold rnd; rw [if_neg (by omega), if_pos rfl, if_pos (.inr ⟨h2, h3⟩)])
          have h2' : (a % b == b - a % b) = true := beq_iff_eq.2 h2
          have h3' : (a / b % 2 == 1) = true := beq_iff_eq.2 h3
          clear h2 h3
          go_enter Try.func91, Try.ntmps91
          go_wp2
          go_ret
          exact ⟨ret_int HT.out.symm, rfl⟩
        · have HT := Lib.hid (show rnd a b 2 = a / b by unfold rnd; rw [if_neg (by omega), if_pos rfl, if_neg (by rintro (h | h); exact h1 h; exact h3 h.2)])
          have h2' : (a % b == b - a % b) = true := beq_iff_eq.2 h2
          have h3' : (a / b % 2 == 1) = false := beq_eq_false_iff_ne.2 h3
          clear h2 h3
          go_enter Try.func91, Try.ntmps91
          go_wp2
          go_ret
          exact ⟨ret_int HT.out.symm, rfl⟩
      · have HT := Lib.hid (show rnd a b 2 = a / b by unfold rnd; rw [if_neg (by omega), if_pos rfl, if_neg (by rintro (h | h); exact h1 h; exact h2 h.1)])
        have h2' : (a % b == b - a % b) = false := beq_eq_false_iff_ne.2 h2
        clear h2
        go_enter Try.func91, Try.ntmps91
        go_wp2
        go_ret
        exact ⟨ret_int HT.out.symm, rfl⟩
  · by_cases h1 : 0 < a % b
    · have HT := Lib.hid (show rnd a b 3 = a / b + 1 by simp [rnd, h1])
      go_enter Try.func91, Try.ntmps91
      go_wp2
      go_ret
      exact ⟨ret_int HT.out.symm, rfl⟩
    · have HT := Lib.hid (show rnd a b 3 = a / b by simp [rnd, h1])
      go_enter Try.func91, Try.ntmps91
      go_wp2
      go_ret
      exact ⟨ret_int HT.out.symm, rfl⟩

set_option maxHeartbeats 1000000 in
theorem round_impl (a b m : Int) (ha : 0 ≤ a) (ha2 : a ≤ 9000000000000000000) (hb : 1 ≤ b) (hb2 : b ≤ 1000000000000) (hm : 0 ≤ m) (hm2 : m ≤ 3) (w : World) :
    Calls Try.prog 95 #[.int .i64 a, .int .i64 b, .int .i64 m] w fun e w' => e = .returned (.int .i64 (rnd a b m)) ∧ ∃ n, w' = w.drewN n := by
  have q0 : 0 ≤ a / b := Int.ediv_nonneg ha (by omega)
  have q1 : a / b ≤ a := Int.ediv_le_self _ ha
  have q2 : a / b ≤ 9000000000000000000 := by omega
  have r0 : 0 ≤ a % b := Int.emod_nonneg a (by omega)
  have r1 : a % b < b := Int.emod_lt_of_pos a (by omega)
  have hbz : (b == 0) = false := by simp; omega
  rcases (show m = 0 ∨ m = 1 ∨ m = 2 ∨ m = 3 by omega) with rfl | rfl | rfl | rfl
  · have HT := Lib.hid (show rnd a b 0 = a / b by simp [rnd])
    go_enter Try.func95, Try.ntmps95
    go_wp2
    go_quiet (fail)
    go_wp2
    go_ret
    exact ⟨ret_int HT.out.symm, _, rfl⟩
  · by_cases h1 : b - a % b ≤ a % b
    · have HT := Lib.hid (show rnd a b 1 = a / b + 1 by simp [rnd, h1])
      go_enter Try.func95, Try.ntmps95
      go_wp2
      go_quiet (fail)
      go_wp2
      go_ret
      exact ⟨ret_int HT.out.symm, _, rfl⟩
    · have HT := Lib.hid (show rnd a b 1 = a / b by simp [rnd, h1])
      go_enter Try.func95, Try.ntmps95
      go_wp2
      go_quiet (fail)
      go_wp2
      go_ret
      exact ⟨ret_int HT.out.symm, _, rfl⟩
  · by_cases h1 : b - a % b < a % b
    · have HT := Lib.hid (show rnd a b 2 = a / b + 1 by simp [rnd, h1])
      go_enter Try.func95, Try.ntmps95
      go_wp2
      go_quiet (fail)
      go_wp2
      go_ret
      exact ⟨ret_int HT.out.symm, _, rfl⟩
    · by_cases h2 : a % b = b - a % b
      · by_cases h3 : a / b % 2 = 1
        · have HT := Lib.hid (show rnd a b 2 = a / b + 1 by unfold rnd; rw [if_neg (by omega), if_pos rfl, if_pos (.inr ⟨h2, h3⟩)])
          have h2' : (a % b == b - a % b) = true := beq_iff_eq.2 h2
          have h3' : (a / b % 2 == 1) = true := beq_iff_eq.2 h3
          clear h2 h3
          go_enter Try.func95, Try.ntmps95
          go_wp2
          go_quiet (fail)
          go_wp2
          go_ret
          exact ⟨ret_int HT.out.symm, _, rfl⟩
        · have HT := Lib.hid (show rnd a b 2 = a / b by unfold rnd; rw [if_neg (by omega), if_pos rfl, if_neg (by rintro (h | h); exact h1 h; exact h3 h.2)])
          have h2' : (a % b == b - a % b) = true := beq_iff_eq.2 h2
          have h3' : (a / b % 2 == 1) = false := beq_eq_false_iff_ne.2 h3
          clear h2 h3
          go_enter Try.func95, Try.ntmps95
          go_wp2
          go_quiet (fail)
          go_wp2
          go_ret
          exact ⟨ret_int HT.out.symm, _, rfl⟩
      · have HT := Lib.hid (show rnd a b 2 = a / b by unfold rnd; rw [if_neg (by omega), if_pos rfl, if_neg (by rintro (h | h); exact h1 h; exact h2 h.1)])
        have h2' : (a % b == b - a % b) = false := beq_eq_false_iff_ne.2 h2
        clear h2
        go_enter Try.func95, Try.ntmps95
        go_wp2
        go_quiet (fail)
        go_wp2
        go_ret
        exact ⟨ret_int HT.out.symm, _, rfl⟩
  · by_cases h1 : 0 < a % b
    · have HT := Lib.hid (show rnd a b 3 = a / b + 1 by simp [rnd, h1])
      go_enter Try.func95, Try.ntmps95
      go_wp2
      go_quiet (fail)
      go_wp2
      go_ret
      exact ⟨ret_int HT.out.symm, _, rfl⟩
    · have HT := Lib.hid (show rnd a b 3 = a / b by simp [rnd, h1])
      go_enter Try.func95, Try.ntmps95
      go_wp2
      go_quiet (fail)
      go_wp2
      go_ret
      exact ⟨ret_int HT.out.symm, _, rfl⟩

end Go.Proofs.Ytloffnamjgnkhaa
