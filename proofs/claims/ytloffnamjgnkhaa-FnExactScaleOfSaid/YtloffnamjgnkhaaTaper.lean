/-
  What is left of a full amount: the reference's and the program's own functions give the same. Conditions: the numbers are amounts and rates.
-/
import Derived.Test.YtloffnamjgnkhaaIn
import Derived.Test.YtloffnamjgnkhaaRound
namespace Go.Proofs.Ytloffnamjgnkhaa
open Go.RowKit

theorem cents_spec (n : Int) (w : World) : Calls Try.prog 63 #[.int .i64 n] w fun e w' => e = .returned (.bool (inB n 0 1000000000000)) ∧ w = w' := by
  go_enter Try.func63, Try.ntmps63
  go_wp2_with (go_at_call 76; refine (in_spec _ _ _ _).mono ?_; rintro e w' ⟨rfl, rfl⟩)
  go_ret
  exact ⟨rfl, rfl⟩
theorem cents_impl (n : Int) (w : World) : Calls Try.prog 94 #[.int .i64 n] w fun e w' => e = .returned (.bool (inB n 0 1000000000000)) ∧ w = w' := by
  go_enter Try.func94, Try.ntmps94
  go_wp2_with (go_at_call 78; refine (in_impl _ _ _ _).mono ?_; rintro e w' ⟨rfl, rfl⟩)
  go_ret
  exact ⟨rfl, rfl⟩
theorem rate_spec (n : Int) (w : World) : Calls Try.prog 68 #[.int .i64 n] w fun e w' => e = .returned (.bool (inB n 0 10000)) ∧ w = w' := by
  go_enter Try.func68, Try.ntmps68
  go_wp2_with (go_at_call 76; refine (in_spec _ _ _ _).mono ?_; rintro e w' ⟨rfl, rfl⟩)
  go_ret
  exact ⟨rfl, rfl⟩
theorem rate_impl (n : Int) (w : World) : Calls Try.prog 93 #[.int .i64 n] w fun e w' => e = .returned (.bool (inB n 0 10000)) ∧ w = w' := by
  go_enter Try.func93, Try.ntmps93
  go_wp2_with (go_at_call 78; refine (in_impl _ _ _ _).mono ?_; rintro e w' ⟨rfl, rfl⟩)
  go_ret
  exact ⟨rfl, rfl⟩

/-- Do the numbers tell a taper? -/
def tapB (full start rate : Int) : Bool := inB full 0 1000000000000 && (inB start 0 1000000000000 && inB rate 0 10000)

theorem tapB_iff {full start rate : Int} (h : tapB full start rate = true) : (0 ≤ full ∧ full ≤ 1000000000000) ∧ (0 ≤ start ∧ start ≤ 1000000000000) ∧ 0 ≤ rate ∧ rate ≤ 10000 := by
  simp only [tapB, Bool.and_eq_true, inB_iff] at h
  exact h

theorem tapers_spec (full start rate : Int) (w : World) : Calls Try.prog 87 #[.int .i64 full, .int .i64 start, .int .i64 rate] w fun e w' => e = .returned (.bool (tapB full start rate)) ∧ w = w' := by
  unfold tapB
  cases h1 : inB full 0 1000000000000 <;> cases h2 : inB start 0 1000000000000
  all_goals
    go_enter Try.func87, Try.ntmps87
    go_wp2_with (first
      | (go_at_call 63; refine (cents_spec _ _).mono ?_; rintro e w' ⟨rfl, rfl⟩)
      | (go_at_call 68; refine (rate_spec _ _).mono ?_; rintro e w' ⟨rfl, rfl⟩))
    go_ret
    exact ⟨rfl, rfl⟩
theorem tapers_impl (full start rate : Int) (w : World) : Calls Try.prog 89 #[.int .i64 full, .int .i64 start, .int .i64 rate] w fun e w' => e = .returned (.bool (tapB full start rate)) ∧ w = w' := by
  unfold tapB
  cases h1 : inB full 0 1000000000000 <;> cases h2 : inB start 0 1000000000000
  all_goals
    go_enter Try.func89, Try.ntmps89
    go_wp2_with (first
      | (go_at_call 94; refine (cents_impl _ _).mono ?_; rintro e w' ⟨rfl, rfl⟩)
      | (go_at_call 93; refine (rate_impl _ _).mono ?_; rintro e w' ⟨rfl, rfl⟩))
    go_ret
    exact ⟨rfl, rfl⟩

/-- What is left of a full amount. -/
def tpr (full start rate cents : Int) : Int := if cents ≤ start then full else max (full - rnd ((cents - start) * rate) 10000 3) 0

theorem mul_bd {x y a b : Int} (hx : 0 ≤ x) (hxa : x ≤ a) (hy : 0 ≤ y) (hyb : y ≤ b) : 0 ≤ x * y ∧ x * y ≤ a * b :=
  ⟨Int.mul_nonneg hx hy, Int.mul_le_mul hxa hyb hy (by omega)⟩

theorem max_spec (a b : Int) (w : World) : Calls Try.prog 92 #[.int .i64 a, .int .i64 b] w fun e w' => e = .returned (.int .i64 (max a b)) ∧ w = w' := by
  by_cases h : b < a
  · have HT := Lib.hid (show max a b = a by omega)
    go_enter Try.func92, Try.ntmps92
    go_wp2
    go_ret
    exact ⟨ret_int HT.out.symm, rfl⟩
  · have HT := Lib.hid (show max a b = b by omega)
    go_enter Try.func92, Try.ntmps92
    go_wp2
    go_ret
    exact ⟨ret_int HT.out.symm, rfl⟩

theorem tpr_bd (full start rate cents : Int) (h1 : 0 ≤ full) (h2 : full ≤ 1000000000000) (h5 : 0 ≤ rate) : 0 ≤ tpr full start rate cents ∧ tpr full start rate cents ≤ full := by
  unfold tpr
  split
  · omega
  · rename_i h
    have := (rnd_bd ((cents - start) * rate) 10000 3 (Int.mul_nonneg (by omega) h5) (by omega)).1
    omega

set_option maxHeartbeats 400000 in
theorem taper_spec (full start rate cents : Int) (h : tapB full start rate = true) (c0 : 0 ≤ cents) (c1 : cents ≤ 1000000000000) (w : World) :
    Calls Try.prog 88 #[.int .i64 full, .int .i64 start, .int .i64 rate, .int .i64 cents] w fun e w' => e = .returned (.int .i64 (tpr full start rate cents)) ∧ w = w' := by
  obtain ⟨⟨f0, f1⟩, ⟨s0, s1⟩, r0, r1⟩ := tapB_iff h
  clear h
  by_cases hc : cents ≤ start
  · have HT := Lib.hid (show tpr full start rate cents = full by simp [tpr, hc])
    go_enter Try.func88, Try.ntmps88
    go_wp2_with fail
    go_ret
    exact ⟨ret_int HT.out.symm, rfl⟩
  · obtain ⟨p0, p1⟩ := mul_bd (show 0 ≤ cents - start by omega) (show cents - start ≤ 1000000000000 by omega) r0 r1
    obtain ⟨b0, b1⟩ := rnd_bd ((cents - start) * rate) 10000 3 p0 (by omega)
    have b2 : rnd ((cents - start) * rate) 10000 3 ≤ 10000000000000 := by omega
    have HT := Lib.hid (show tpr full start rate cents = max 0 (full - rnd ((cents - start) * rate) 10000 3) by simp only [tpr, if_neg hc]; omega)
    go_enter Try.func88, Try.ntmps88
    go_wp2_with (first
      | (go_at_call 91; refine (round_spec _ _ _ p0 (by omega) (by omega) (by omega) (by omega) (by omega) _).mono ?_; rintro e w' ⟨rfl, rfl⟩)
      | (go_at_call 92; refine (max_spec _ _ _).mono ?_; rintro e w' ⟨rfl, rfl⟩))
    go_ret
    exact ⟨ret_int HT.out.symm, rfl⟩

set_option maxHeartbeats 400000 in
theorem taper_impl (full start rate cents : Int) (h : tapB full start rate = true) (c0 : 0 ≤ cents) (c1 : cents ≤ 1000000000000) (w : World) :
    Calls Try.prog 90 #[.int .i64 full, .int .i64 start, .int .i64 rate, .int .i64 cents] w fun e w' => e = .returned (.int .i64 (tpr full start rate cents)) ∧ ∃ n, w' = w.drewN n := by
  obtain ⟨⟨f0, f1⟩, ⟨s0, s1⟩, r0, r1⟩ := tapB_iff h
  clear h
  by_cases hc : cents ≤ start
  · have HT := Lib.hid (show tpr full start rate cents = full by simp [tpr, hc])
    go_enter Try.func90, Try.ntmps90
    go_wp2_with fail
    go_ret
    exact ⟨ret_int HT.out.symm, 0, rfl⟩
  · obtain ⟨p0, p1⟩ := mul_bd (show 0 ≤ cents - start by omega) (show cents - start ≤ 1000000000000 by omega) r0 r1
    obtain ⟨b0, b1⟩ := rnd_bd ((cents - start) * rate) 10000 3 p0 (by omega)
    have b2 : rnd ((cents - start) * rate) 10000 3 ≤ 10000000000000 := by omega
    have HT := Lib.hid (show tpr full start rate cents = max (full - rnd ((cents - start) * rate) 10000 3) 0 by simp only [tpr, if_neg hc])
    go_enter Try.func90, Try.ntmps90
    go_wp2_with (go_at_call 95; refine (round_impl _ _ _ p0 (by omega) (by omega) (by omega) (by omega) (by omega) _).mono ?_; rintro e w' ⟨rfl, n, rfl⟩)
    all_goals
      go_ret
      exact ⟨ret_int (by rw [HT.out]; omega), n, rfl⟩
end Go.Proofs.Ytloffnamjgnkhaa
