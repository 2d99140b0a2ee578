/-
  The greatest common divisor; MeanRate: the reference's and the program's functions give the same. Conditions: the slices read as lists that are not too long.
-/
import Derived.OwnWalk
import Derived.Test.YtloffnamjgnkhaaDue
namespace Go.Proofs.Ytloffnamjgnkhaa
open Go.RowKit Mem

/-- The greatest common divisor of two numbers that are not negative. -/
def gcdV (a b : Int) : Int := (Nat.gcd a.toNat b.toNat : Nat)
theorem gcd_zero {x : Int} (h : 0 ≤ x) : gcdV x 0 = x := by
  unfold gcdV
  simp
  omega
theorem gcd_step {x y : Int} (hx : 0 ≤ x) (hy : 0 ≤ y) : gcdV y (x % y) = gcdV x y := by
  obtain ⟨x, rfl⟩ := Int.eq_ofNat_of_zero_le hx
  obtain ⟨y, rfl⟩ := Int.eq_ofNat_of_zero_le hy
  unfold gcdV
  rw [show ((x : Int) % (y : Int)).toNat = x % y from by rw [← Int.natCast_emod]; rfl]
  simp only [Int.toNat_natCast]
  rw [Nat.gcd_comm x y, Nat.gcd_rec y x, Nat.gcd_comm]
theorem gcd_pos {x y : Int} (hy : 0 < y) : 1 ≤ gcdV x y := by
  unfold gcdV
  have : 0 < Nat.gcd x.toNat y.toNat := Nat.gcd_pos_of_pos_right _ (by omega)
  omega

set_option maxHeartbeats 1000000 in
theorem gcd_spec (a b : Int) (a0 : 0 ≤ a) (a1 : a ≤ 10000000000000000) (b0 : 0 ≤ b) (b1 : b ≤ 10000000000000000) (w : World) :
    Calls Try.prog 73 #[.int .i64 a, .int .i64 b] w fun e w' => e = .returned (.int .i64 (gcdV a b)) ∧ w = w' := by
  go_enter Try.func73, Try.ntmps73
  go_wp2
  go_loopw [0, 1] (fun i o wr => ∃ (x y : Int), 0 ≤ x ∧ x ≤ 10000000000000000 ∧ 0 ≤ y ∧ y ≤ 10000000000000000 ∧ i = .int .i64 x ∧ o = .int .i64 y ∧ wr = w ∧ gcdV x y = gcdV a b) (fun _ o _ => (intOf o).toNat)
  case atStart => exact ⟨a, b, a0, a1, b0, b1, rfl, rfl, rfl, rfl⟩
  case round =>
    obtain ⟨x, y, x0, x1, y0, y1, rfl, rfl, rfl, HE0⟩ := hrel
    have HE := Lib.hid HE0
    clear HE0
    by_cases hy : y = 0
    · subst hy
      have HS := Lib.hid ((gcd_zero x0).symm.trans HE.out)
      go_wp2
      go_ret
      exact ⟨ret_int HS.out, rfl⟩
    · have hyz : (y == 0) = false := beq_eq_false_iff_ne.2 hy
      have hyn : (y != 0) = true := bne_iff_ne.2 hy
      have r0 : 0 ≤ x % y := Int.emod_nonneg x hy
      have r1 : x % y < y := Int.emod_lt_of_pos x (by omega)
      have HS := Lib.hid ((gcd_step x0 y0).trans HE.out)
      clear HE
      go_wp2
      go_roundw
      case rel => exact ⟨y, x % y, y0, y1, r0, by omega, (by first | rfl | trivial), (by first | rfl | trivial | go_num), (by first | rfl | trivial | exact World.drewN_drewN _ _ _), HS.out⟩
      case measure => simp [intOf]; omega

set_option maxHeartbeats 1000000 in
theorem gcd_impl (a b : Int) (a0 : 0 ≤ a) (a1 : a ≤ 10000000000000000) (b0 : 0 ≤ b) (b1 : b ≤ 10000000000000000) (w : World) :
    Calls Try.prog 75 #[.int .i64 a, .int .i64 b] w fun e w' => e = .returned (.int .i64 (gcdV a b)) ∧ ∃ q, w' = w.drewN q := by
  go_enter Try.func75, Try.ntmps75
  go_wp2
  go_loopw [0, 1] (fun i o wr => ∃ (q : Nat) (x y : Int), 0 ≤ x ∧ x ≤ 10000000000000000 ∧ 0 ≤ y ∧ y ≤ 10000000000000000 ∧ i = .int .i64 x ∧ o = .int .i64 y ∧ wr = w.drewN q ∧ gcdV x y = gcdV a b) (fun _ o _ => (intOf o).toNat)
  case atStart => exact ⟨0, a, b, a0, a1, b0, b1, rfl, rfl, rfl, rfl⟩
  case round =>
    obtain ⟨q, x, y, x0, x1, y0, y1, rfl, rfl, rfl, HE0⟩ := hrel
    have HE := Lib.hid HE0
    clear HE0
    by_cases hy : y = 0
    · subst hy
      have HS := Lib.hid ((gcd_zero x0).symm.trans HE.out)
      go_wp2
      go_ret
      exact ⟨ret_int HS.out, _, rfl⟩
    · have hyz : (y == 0) = false := beq_eq_false_iff_ne.2 hy
      have hyn : (y != 0) = true := bne_iff_ne.2 hy
      have r0 : 0 ≤ x % y := Int.emod_nonneg x hy
      have r1 : x % y < y := Int.emod_lt_of_pos x (by omega)
      have HS := Lib.hid ((gcd_step x0 y0).trans HE.out)
      clear HE
      go_wp2
      go_quiet (fail)
      go_wp2
      go_roundw
      case rel => exact ⟨_, y, x % y, y0, y1, r0, by omega, (by first | rfl | trivial), (by first | rfl | trivial | go_num), (by first | rfl | trivial | exact World.drewN_drewN _ _ _), HS.out⟩
      case measure => simp [intOf]; omega

open Classical in
/-- What MeanRate hands back. -/
noncomputable def meanRes (bs rs : List Int) (cents : Int) : Int × Int × Bool :=
  if Asked bs rs cents 0 ∧ cents ≠ 0 then (exV bs rs cents / gcdV (exV bs rs cents) (10000 * cents), 10000 * cents / gcdV (exV bs rs cents) (10000 * cents), true) else (0, 0, false)
theorem meanRes_yes {bs rs : List Int} {cents : Int} (h : Asked bs rs cents 0) (h2 : cents ≠ 0) : meanRes bs rs cents = (exV bs rs cents / gcdV (exV bs rs cents) (10000 * cents), 10000 * cents / gcdV (exV bs rs cents) (10000 * cents), true) := by unfold meanRes; rw [if_pos ⟨h, h2⟩]
theorem meanRes_no {bs rs : List Int} {cents : Int} (h : ¬ (Asked bs rs cents 0 ∧ cents ≠ 0)) : meanRes bs rs cents = (0, 0, false) := by unfold meanRes; rw [if_neg h]
theorem ret_iib {a b : Int} {d : Bool} {p : Int × Int × Bool} (h : p = (a, b, d)) : Ending.returned (.tuple #[.int .i64 a, .int .i64 b, .bool d]) = .returned (.tuple #[.int .i64 p.1, .int .i64 p.2.1, .bool p.2.2]) := by rw [h]

theorem quot_bd {a g : Int} (h0 : 0 ≤ a) (hg : 1 ≤ g) : 0 ≤ a / g ∧ a / g ≤ a := ⟨Int.ediv_nonneg h0 (by omega), Int.ediv_le_self _ h0⟩

set_option maxHeartbeats 1000000 in
theorem mean_impl (A : Option Addr) (n c : Nat) (bs : List Int) (B : Option Addr) (m d : Nat) (rs : List Int) (cents : Int) (w : World)
    (h : Sl w A n (valsI bs)) (h2 : Sl w B m (valsI rs)) (hn : n ≤ 1048576) (hm : m ≤ 1048576) :
    Calls Try.prog 37 #[.agg #[.slice A n c, .slice B m d], .int .i64 cents] w fun e w' => e = .returned (.tuple #[.int .i64 (meanRes bs rs cents).1, .int .i64 (meanRes bs rs cents).2.1, .bool (meanRes bs rs cents).2.2]) ∧ Kp [] w w' := by
  have HA := Lib.hid h
  have HB := Lib.hid h2
  clear h h2
  have HW := Lib.hid ((Kp.refl w).alloc (.cells #[.slice A n c, .slice B m d] 27))
  have hbx := Lib.hid (show w.heap.size < (w.alloc (.cells #[.slice A n c, .slice B m d] 27)).heap.size by simp)
  have hc0 : (w.alloc (.cells #[.slice A n c, .slice B m d] 27)).cell? ⟨w.heap.size, 0, none⟩ = some (.slice A n c) := by simp [go_sem]
  have hc1 : (w.alloc (.cells #[.slice A n c, .slice B m d] 27)).cell? ⟨w.heap.size, 1, none⟩ = some (.slice B m d) := by simp [go_sem]
  have C0 := Lib.hid hc0
  have C1 := Lib.hid hc1
  clear hc0 hc1
  go_enter Try.func37, Try.ntmps37
  go_wp2_with fail
  refine (ask_impl A n c bs B m d rs cents 0 _ (by exact HA.out.kp HW.out) (by exact HB.out.kp HW.out) hn hm).mono ?_
  rintro e w1 ⟨b1, rfl, hb1, hk⟩
  have c0 : w1.cell? ⟨w.heap.size, 0, none⟩ = some (.slice A n c) := (hk.cell (p := ⟨w.heap.size, 0, none⟩) hbx.out (by simp)).trans C0.out
  have c1 : w1.cell? ⟨w.heap.size, 1, none⟩ = some (.slice B m d) := (hk.cell (p := ⟨w.heap.size, 1, none⟩) hbx.out (by simp)).trans C1.out
  have HK := Lib.hid (HW.out.tr hk)
  have HB1 := Lib.hid hb1
  clear hb1 hk HW C0 C1 hbx
  cases b1
  · have HF := Lib.hid (show meanRes bs rs cents = (0, 0, false) from meanRes_no (fun hh => by have := HB1.out.2 hh.1; cases this))
    go_wp2_with fail
    go_ret3
    exact ⟨ret_iib HF.out, HK.out⟩
  · have HV := Lib.hid (HB1.out.1 rfl)
    by_cases hz : cents = 0
    · subst hz
      have HF := Lib.hid (show meanRes bs rs 0 = (0, 0, false) from meanRes_no (fun hh => hh.2 rfl))
      go_wp2_with fail
      go_ret3
      exact ⟨ret_iib HF.out, HK.out⟩
    · have hz' : (cents == 0) = false := beq_eq_false_iff_ne.2 hz
      have HF := Lib.hid (meanRes_yes HV.out hz)
      obtain ⟨q0, q1⟩ := inB_iff.1 HV.out.2.1
      obtain ⟨x0, x1, _, _⟩ := due_bd HV.out
      have HX := Lib.hid (exact_impl A n c bs B m d rs cents w1 (HA.out.kp HK.out) (HB.out.kp HK.out) HV.out.1 q0 q1)
      have hp : 0 < cents := by omega
      clear hz
      go_wp2_with fail
      refine HX.out.mono ?_
      rintro e w2 ⟨rfl, hk2⟩
      have HK2 := Lib.hid (HK.out.tr hk2)
      clear hk2 HX
      have g1 := gcd_pos (x := exV bs rs cents) (show 0 < 10000 * cents by omega)
      have gz : (gcdV (exV bs rs cents) (10000 * cents) == 0) = false := beq_eq_false_iff_ne.2 (by omega)
      obtain ⟨u0, u1⟩ := quot_bd x0 g1
      obtain ⟨v0, v1⟩ := quot_bd (show 0 ≤ 10000 * cents by omega) g1
      go_wp2_with fail
      refine (gcd_impl _ _ x0 x1 (by omega) (by omega) _).mono ?_
      rintro e w3 ⟨rfl, q, rfl⟩
      go_wp2_with fail
      go_quiet (fail)
      go_wp2_with fail
      go_ret3
      exact ⟨ret_iib HF.out, by first | exact HK2.out.drewN _ | exact (HK2.out.drewN _).drewN _⟩

set_option maxHeartbeats 1000000 in
theorem mean_spec (A : Option Addr) (n c : Nat) (bs : List Int) (B : Option Addr) (m d : Nat) (rs : List Int) (cents : Int) (w : World)
    (h : Sl w A n (valsI bs)) (h2 : Sl w B m (valsI rs)) (hn : n ≤ 1048576) (hm : m ≤ 1048576) :
    Calls Try.prog 36 #[.agg #[.slice A n c, .slice B m d], .int .i64 cents] w fun e w' => e = .returned (.tuple #[.int .i64 (meanRes bs rs cents).1, .int .i64 (meanRes bs rs cents).2.1, .bool (meanRes bs rs cents).2.2]) ∧ Kp [] w w' := by
  have HA := Lib.hid h
  have HB := Lib.hid h2
  clear h h2
  have HW := Lib.hid ((Kp.refl w).alloc (.cells #[.slice A n c, .slice B m d] 27))
  have hbx := Lib.hid (show w.heap.size < (w.alloc (.cells #[.slice A n c, .slice B m d] 27)).heap.size by simp)
  have hc0 : (w.alloc (.cells #[.slice A n c, .slice B m d] 27)).cell? ⟨w.heap.size, 0, none⟩ = some (.slice A n c) := by simp [go_sem]
  have hc1 : (w.alloc (.cells #[.slice A n c, .slice B m d] 27)).cell? ⟨w.heap.size, 1, none⟩ = some (.slice B m d) := by simp [go_sem]
  have C0 := Lib.hid hc0
  have C1 := Lib.hid hc1
  clear hc0 hc1
  go_enter Try.func36, Try.ntmps36
  go_wp2_with fail
  refine (is_any A n c bs B m d rs _ _ C0.out C1.out (by exact HA.out.kp HW.out) (by exact HB.out.kp HW.out) hn hm).mono ?_
  rintro e w1 ⟨b1, rfl, hb1, q, rfl⟩
  have HB1 := Lib.hid hb1
  clear hb1
  cases b1
  · have HF := Lib.hid (show meanRes bs rs cents = (0, 0, false) from meanRes_no (fun hh => by have := HB1.out.2 hh.1.1; cases this))
    go_wp2_with fail
    go_ret3
    exact ⟨ret_iib HF.out, HW.out.drewN _⟩
  · have HV0 := Lib.hid (HB1.out.1 rfl)
    cases hc : inB cents 0 1000000000000
    · have HF := Lib.hid (show meanRes bs rs cents = (0, 0, false) from meanRes_no (fun hh => by have := hh.1.2.1; rw [hc] at this; cases this))
      go_wp2_with (go_at_call 63; refine (cents_spec _ _).mono ?_; rintro e w' ⟨rfl, rfl⟩)
      go_ret3
      exact ⟨ret_iib HF.out, HW.out.drewN _⟩
    · have HV := Lib.hid (show Asked bs rs cents 0 from ⟨HV0.out, hc, rfl⟩)
      by_cases hz : cents = 0
      · subst hz
        have HF := Lib.hid (show meanRes bs rs 0 = (0, 0, false) from meanRes_no (fun hh => hh.2 rfl))
        go_wp2_with (go_at_call 63; refine (cents_spec _ _).mono ?_; rintro e w' ⟨rfl, rfl⟩)
        go_ret3
        exact ⟨ret_iib HF.out, HW.out.drewN _⟩
      · have hz' : (cents == 0) = false := beq_eq_false_iff_ne.2 hz
        have HF := Lib.hid (meanRes_yes HV.out hz)
        obtain ⟨q0, q1⟩ := inB_iff.1 HV.out.2.1
        obtain ⟨x0, x1, _, _⟩ := due_bd HV.out
        have HX := Lib.hid (exact_spec A n c bs B m d rs w.heap.size cents ((w.alloc (.cells #[.slice A n c, .slice B m d] 27)).drewN q) C0.out C1.out (HA.out.kp (HW.out.drewN _)) (HB.out.kp (HW.out.drewN _)) HV.out.1 q0 q1)
        have hp : 0 < cents := by omega
        clear hz
        go_wp2_with (go_at_call 63; refine (cents_spec _ _).mono ?_; rintro e w' ⟨rfl, rfl⟩)
        refine HX.out.mono ?_
        rintro e w2 ⟨rfl, q2, rfl⟩
        clear HX
        have g1 := gcd_pos (x := exV bs rs cents) (show 0 < 10000 * cents by omega)
        have gz : (gcdV (exV bs rs cents) (10000 * cents) == 0) = false := beq_eq_false_iff_ne.2 (by omega)
        obtain ⟨u0, u1⟩ := quot_bd x0 g1
        obtain ⟨v0, v1⟩ := quot_bd (show 0 ≤ 10000 * cents by omega) g1
        go_wp2_with fail
        refine (gcd_spec _ _ x0 x1 (by omega) (by omega) _).mono ?_
        rintro e w3 ⟨rfl, rfl⟩
        go_wp2_with fail
        go_quiet (fail)
        go_wp2_with fail
        go_ret3
        exact ⟨ret_iib HF.out, by first | exact HW.out.drewN _ | exact (HW.out.drewN _).drewN _⟩
end Go.Proofs.Ytloffnamjgnkhaa
