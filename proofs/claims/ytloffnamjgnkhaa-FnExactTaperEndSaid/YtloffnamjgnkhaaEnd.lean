/-
  Where a taper ends: the reference's closed form and the program's search give the same. Conditions: each number fits an int64.
-/
import Derived.Test.YtloffnamjgnkhaaTaper
import Derived.Test.YtloffnamjgnkhaaMem
namespace Go.Proofs.Ytloffnamjgnkhaa
open Go.RowKit Mem

/-- Where the taper ends, where it has an amount and a rate. -/
def endC (full start rate : Int) : Int := start + (full - 1) * 10000 / rate + 1
/-- What TaperEnd hands back. -/
def endRes (full start rate : Int) : Int × Bool :=
  if tapB full start rate = true then (if full = 0 then (0, true) else if rate = 0 then (0, false) else if endC full start rate ≤ 1000000000000 then (endC full start rate, true) else (0, false)) else (0, false)
theorem endRes_no {full start rate : Int} (h : tapB full start rate = false) : endRes full start rate = (0, false) := by unfold endRes; rw [if_neg (by rw [h]; decide)]
theorem endRes_zero {start rate : Int} (h : tapB 0 start rate = true) : endRes 0 start rate = (0, true) := by unfold endRes; rw [if_pos h, if_pos rfl]
theorem endRes_flat {full start : Int} (h : tapB full start 0 = true) (h0 : full ≠ 0) : endRes full start 0 = (0, false) := by unfold endRes; rw [if_pos h, if_neg h0, if_pos rfl]
theorem endRes_far {full start rate : Int} (h : tapB full start rate = true) (h0 : full ≠ 0) (h1 : rate ≠ 0) (h2 : 1000000000000 < endC full start rate) : endRes full start rate = (0, false) := by unfold endRes; rw [if_pos h, if_neg h0, if_neg h1, if_neg (by omega)]
theorem endRes_yes {full start rate : Int} (h : tapB full start rate = true) (h0 : full ≠ 0) (h1 : rate ≠ 0) (h2 : endC full start rate ≤ 1000000000000) : endRes full start rate = (endC full start rate, true) := by unfold endRes; rw [if_pos h, if_neg h0, if_neg h1, if_pos h2]

theorem up_iff {full x : Int} : full ≤ rnd x 10000 3 ↔ (full - 1) * 10000 < x := by
  unfold rnd
  rw [if_neg (by decide), if_neg (by decide), if_pos rfl]
  split <;> omega

theorem tz_zero {start rate c : Int} (h : tapB 0 start rate = true) : tpr 0 start rate c = 0 := by
  obtain ⟨_, ⟨_, _⟩, r0, _⟩ := tapB_iff h
  have := tpr_bd 0 start rate c (by decide) (by decide) r0
  omega
theorem tz_flat {full start c : Int} (h0 : full ≠ 0) (hf : 0 ≤ full) : tpr full start 0 c ≠ 0 := by
  unfold tpr
  split
  · exact h0
  · rw [Int.mul_zero, show rnd 0 10000 3 = 0 by decide]
    omega
theorem tz_iff {full start rate c : Int} (h : tapB full start rate = true) (h0 : full ≠ 0) (h1 : rate ≠ 0) : tpr full start rate c = 0 ↔ endC full start rate ≤ c := by
  obtain ⟨⟨f0, _⟩, ⟨_, _⟩, r0, _⟩ := tapB_iff h
  have hQ : 0 ≤ (full - 1) * 10000 / rate := Int.ediv_nonneg (by omega) r0
  unfold tpr endC
  split
  · constructor <;> intro <;> omega
  · have e' : max (full - rnd ((c - start) * rate) 10000 3) 0 = 0 ↔ full ≤ rnd ((c - start) * rate) 10000 3 := by omega
    rw [e', up_iff, ← Int.ediv_lt_iff_lt_mul (by omega)]
    omega
theorem tz_mono {full start rate c d : Int} (h : tapB full start rate = true) (hc : tpr full start rate c = 0) (hd : c ≤ d) : tpr full start rate d = 0 := by
  by_cases h0 : full = 0
  · subst h0; exact tz_zero h
  · by_cases h1 : rate = 0
    · subst h1; exact absurd hc (tz_flat h0 (tapB_iff h).1.1)
    · rw [tz_iff h h0 h1] at *
      omega

/-- The least amount at which nothing is left. -/
structure LeastIs (full start rate v : Int) : Prop where
  lo : 0 ≤ v
  hi : v ≤ 1000000000000
  at_ : tpr full start rate v = 0
  no : ∀ c, 0 ≤ c → c < v → tpr full start rate c ≠ 0
theorem LeastIs.res {full start rate v : Int} (hl : LeastIs full start rate v) (h : tapB full start rate = true) : endRes full start rate = (v, true) := by
  by_cases h0 : full = 0
  · subst h0
    rw [endRes_zero h]
    have : v = 0 := by
      by_cases hv : v = 0
      · exact hv
      · exact absurd (tz_zero h) (hl.no 0 (by decide) (by have := hl.lo; omega))
    rw [this]
  · by_cases h1 : rate = 0
    · subst h1; exact absurd hl.at_ (tz_flat h0 (tapB_iff h).1.1)
    · have h2 := (tz_iff h h0 h1).1 hl.at_
      have hc0 : 0 ≤ endC full start rate := by
        obtain ⟨⟨f0, _⟩, ⟨_, _⟩, r0, _⟩ := tapB_iff h
        have hQ : 0 ≤ (full - 1) * 10000 / rate := Int.ediv_nonneg (by omega) r0
        unfold endC
        omega
      have h3 : ¬ endC full start rate < v := fun hh => hl.no _ hc0 hh ((tz_iff h h0 h1).2 (Int.le_refl _))
      have := hl.hi
      rw [endRes_yes h h0 h1 (by omega), show endC full start rate = v by omega]
theorem none_res {full start rate : Int} (h : tapB full start rate = true) (hn : tpr full start rate 1000000000000 ≠ 0) : endRes full start rate = (0, false) := by
  by_cases h0 : full = 0
  · subst h0; exact absurd (tz_zero h) hn
  · by_cases h1 : rate = 0
    · subst h1; exact endRes_flat h h0
    · refine endRes_far h h0 h1 ?_
      have := mt (tz_iff h h0 h1).2 hn
      omega

theorem ret_ibE {a b : Int} {c d : Bool} {p : Int × Bool} (h : p = (b, d)) (h1 : a = b) (h2 : c = d) : Ending.returned (.tuple #[.int .i64 a, .bool c]) = .returned (.tuple #[.int .i64 p.1, .bool p.2]) := by rw [h, h1, h2]

set_option maxHeartbeats 400000 in
theorem end_spec (full start rate : Int) (w : World) : Calls Try.prog 52 #[.int .i64 full, .int .i64 start, .int .i64 rate] w fun e w' => e = .returned (.tuple #[.int .i64 (endRes full start rate).1, .bool (endRes full start rate).2]) ∧ w = w' := by
  cases ht : tapB full start rate
  · have HF := Lib.hid (endRes_no ht)
    go_enter Try.func52, Try.ntmps52
    go_wp2_with (go_at_call 87; refine (tapers_spec _ _ _ _).mono ?_; rintro e w' ⟨rfl, rfl⟩)
    go_ret2
    exact ⟨ret_ibE HF.out rfl rfl, rfl⟩
  · obtain ⟨⟨f0, f1⟩, ⟨s0, s1⟩, r0, r1⟩ := tapB_iff ht
    by_cases hf : full = 0
    · subst hf
      have HF := Lib.hid (endRes_zero ht)
      go_enter Try.func52, Try.ntmps52
      go_wp2_with (go_at_call 87; refine (tapers_spec _ _ _ _).mono ?_; rintro e w' ⟨rfl, rfl⟩)
      go_ret2
      exact ⟨ret_ibE HF.out rfl rfl, rfl⟩
    · have hfz : (full == 0) = false := beq_eq_false_iff_ne.2 hf
      by_cases hr : rate = 0
      · subst hr
        have HF := Lib.hid (endRes_flat ht hf)
        clear hf
        go_enter Try.func52, Try.ntmps52
        go_wp2_with (go_at_call 87; refine (tapers_spec _ _ _ _).mono ?_; rintro e w' ⟨rfl, rfl⟩)
        go_ret2
        exact ⟨ret_ibE HF.out rfl rfl, rfl⟩
      · have hrz : (rate == 0) = false := beq_eq_false_iff_ne.2 hr
        have q0 : 0 ≤ (full - 1) * 10000 / rate := Int.ediv_nonneg (by omega) r0
        have q1 : (full - 1) * 10000 / rate ≤ (full - 1) * 10000 := Int.ediv_le_self _ (by omega)
        have q2 : (full - 1) * 10000 / rate ≤ 10000000000000000 := by omega
        have f2 : 1 ≤ full := by omega
        have r2 : 1 ≤ rate := by omega
        cases hc : inB (start + (full - 1) * 10000 / rate + 1) 0 1000000000000
        · have HF := Lib.hid (endRes_far ht hf hr (by
            have := mt inB_iff.2 (by rw [hc]; decide)
            unfold endC
            omega))
          clear hf hr
          go_enter Try.func52, Try.ntmps52
          go_wp2_with (go_at_call 87; refine (tapers_spec _ _ _ _).mono ?_; rintro e w' ⟨rfl, rfl⟩)
          refine (cents_spec _ _).mono ?_
          rintro e w' ⟨rfl, rfl⟩
          go_wp2_with fail
          go_ret2
          exact ⟨ret_ibE HF.out rfl rfl, rfl⟩
        · have HF := Lib.hid (endRes_yes ht hf hr (by
            have := inB_iff.1 hc
            unfold endC
            omega))
          clear hf hr
          go_enter Try.func52, Try.ntmps52
          go_wp2_with (go_at_call 87; refine (tapers_spec _ _ _ _).mono ?_; rintro e w' ⟨rfl, rfl⟩)
          refine (cents_spec _ _).mono ?_
          rintro e w' ⟨rfl, rfl⟩
          go_wp2_with fail
          go_ret2
          exact ⟨ret_ibE HF.out rfl rfl, rfl⟩

/-- The closure: is nothing left? -/
theorem clos_end (full start rate c : Int) (h : tapB full start rate = true) (c0 : 0 ≤ c) (c1 : c ≤ 1000000000000) (p q r : Nat) (w : World) (hp : w.cell? ⟨p, 0, none⟩ = some (.int .i64 full)) (hq : w.cell? ⟨q, 0, none⟩ = some (.int .i64 start)) (hr : w.cell? ⟨r, 0, none⟩ = some (.int .i64 rate)) :
    Calls Try.prog 98 #[.int .i64 c, .pointer (some ⟨p, 0, none⟩), .pointer (some ⟨q, 0, none⟩), .pointer (some ⟨r, 0, none⟩)] w fun e w' => e = .returned (.bool (tpr full start rate c == 0)) ∧ ∃ n, w' = w.drewN n := by
  go_enter Try.func98, Try.ntmps98
  go_wp2_with fail
  refine (taper_impl _ _ _ _ h c0 c1 _).mono ?_
  rintro e w' ⟨rfl, n, rfl⟩
  go_wp2_with fail
  go_ret
  exact ⟨rfl, _, rfl⟩

set_option maxHeartbeats 1000000 in
theorem least_end (full start rate : Int) (h : tapB full start rate = true) (p q r : Nat) (w : World) (hp : w.cell? ⟨p, 0, none⟩ = some (.int .i64 full)) (hq : w.cell? ⟨q, 0, none⟩ = some (.int .i64 start)) (hr : w.cell? ⟨r, 0, none⟩ = some (.int .i64 rate)) :
    Calls Try.prog 97 #[.int .i64 0, .func (.func 98) #[] #[.pointer (some ⟨p, 0, none⟩), .pointer (some ⟨q, 0, none⟩), .pointer (some ⟨r, 0, none⟩)]] w fun e w' => e = .returned (.tuple #[.int .i64 (endRes full start rate).1, .bool (endRes full start rate).2]) ∧ ∃ n, w' = w.drewN n := by
  have HP := Lib.hid hp
  have HQ := Lib.hid hq
  have HR := Lib.hid hr
  clear hp hq hr
  cases hh : (tpr full start rate 1000000000000 == 0)
  · have HF := Lib.hid (none_res h (beq_eq_false_iff_ne.1 hh))
    go_enter Try.func97, Try.ntmps97
    go_wp2_with fail
    refine (clos_end full start rate _ h (by decide) (by decide) p q r _ HP.out HQ.out HR.out).mono ?_
    rintro e w' ⟨rfl, n, rfl⟩
    go_wp2_with fail
    go_ret2
    exact ⟨ret_ibE HF.out rfl rfl, _, rfl⟩
  · have HT := Lib.hid (show tpr full start rate 1000000000000 = 0 from beq_iff_eq.1 hh)
    go_enter Try.func97, Try.ntmps97
    go_wp2_with fail
    refine (clos_end full start rate _ h (by decide) (by decide) p q r _ HP.out HQ.out HR.out).mono ?_
    rintro e w' ⟨rfl, n, rfl⟩
    go_wp2_with fail
    go_loopw [6, 7] (fun i o wr => ∃ (a b : Int) (k : Nat), 0 ≤ a ∧ a ≤ b ∧ b ≤ 1000000000000 ∧ i = .int .i64 a ∧ o = .int .i64 b ∧ wr = w.drewN k ∧ Hid (tpr full start rate b = 0 ∧ ∀ c, 0 ≤ c → c < a → tpr full start rate c ≠ 0)) (fun i o _ => (intOf o - intOf i).toNat)
    case atStart => exact ⟨0, 1000000000000, _, by decide, by decide, by decide, rfl, rfl, rfl, Lib.hid ⟨HT.out, fun c h0 h1 => by omega⟩⟩
    case round =>
      obtain ⟨a, b, k, a0, ab, b1, rfl, rfl, rfl, HE⟩ := hrel
      by_cases hlt : a < b
      · have m0 : a ≤ (a + b) / 2 := by omega
        have m1 : (a + b) / 2 < b := by omega
        cases hm : (tpr full start rate ((a + b) / 2) == 0)
        · have HS := Lib.hid (show tpr full start rate b = 0 ∧ ∀ c, 0 ≤ c → c < (a + b) / 2 + 1 → tpr full start rate c ≠ 0 from ⟨HE.out.1, fun c _ hc hz => beq_eq_false_iff_ne.1 hm (tz_mono h hz (by omega))⟩)
          go_wp2_with fail
          refine (clos_end full start rate _ h (by omega) (by omega) p q r _ (by exact HP.out) (by exact HQ.out) (by exact HR.out)).mono ?_
          rintro e w' ⟨rfl, n, rfl⟩
          go_wp2_with fail
          go_roundw
          case rel => exact ⟨(a + b) / 2 + 1, b, _, by omega, by omega, by omega, by go_num, rfl, (by first | rfl | exact World.drewN_drewN _ _ _), HS⟩
          case measure => simp [intOf]; omega
        · have HS := Lib.hid (show tpr full start rate ((a + b) / 2) = 0 ∧ ∀ c, 0 ≤ c → c < a → tpr full start rate c ≠ 0 from ⟨beq_iff_eq.1 hm, HE.out.2⟩)
          go_wp2_with fail
          refine (clos_end full start rate _ h (by omega) (by omega) p q r _ (by exact HP.out) (by exact HQ.out) (by exact HR.out)).mono ?_
          rintro e w' ⟨rfl, n, rfl⟩
          go_wp2_with fail
          go_roundw
          case rel => exact ⟨a, (a + b) / 2, _, by omega, by omega, by omega, rfl, by go_num, (by first | rfl | exact World.drewN_drewN _ _ _), HS⟩
          case measure => simp [intOf]; omega
      · obtain rfl : a = b := by omega
        have HF := Lib.hid (LeastIs.res ⟨a0, b1, HE.out.1, HE.out.2⟩ h)
        go_wp2_with fail
        go_ret2
        exact ⟨ret_ibE HF.out rfl rfl, _, rfl⟩

set_option maxHeartbeats 400000 in
theorem end_impl (full start rate : Int) (w : World) : Calls Try.prog 53 #[.int .i64 full, .int .i64 start, .int .i64 rate] w fun e w' => e = .returned (.tuple #[.int .i64 (endRes full start rate).1, .bool (endRes full start rate).2]) ∧ Kp [] w w' := by
  cases ht : tapB full start rate
  · have HF := Lib.hid (endRes_no ht)
    go_enter Try.func53, Try.ntmps53
    go_wp2_with (go_at_call 89; refine (tapers_impl _ _ _ _).mono ?_; rintro e w' ⟨rfl, rfl⟩)
    go_ret2
    exact ⟨ret_ibE HF.out rfl rfl, (((Kp.refl _).alloc _).alloc _).alloc _⟩
  · go_enter Try.func53, Try.ntmps53
    go_wp2_with (go_at_call 89; refine (tapers_impl _ _ _ _).mono ?_; rintro e w' ⟨rfl, rfl⟩)
    refine (least_end full start rate ht _ _ _ _ (by simp [go_sem]) (by simp [go_sem]) (by simp [go_sem])).mono ?_
    rintro e w' ⟨rfl, n, rfl⟩
    go_wp2_with fail
    go_ret2
    exact ⟨rfl, ((((Kp.refl _).alloc _).alloc _).alloc _).drewN _⟩
end Go.Proofs.Ytloffnamjgnkhaa
