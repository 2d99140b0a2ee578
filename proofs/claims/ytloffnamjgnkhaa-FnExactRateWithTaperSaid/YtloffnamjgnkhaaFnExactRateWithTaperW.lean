/-
  The walk of the law FnExactRateWithTaper: it returns true. Conditions: the slices read as lists, the whole numbers fit.
-/
import Derived.Test.YtloffnamjgnkhaaRateT
import Derived.Test.YtloffnamjgnkhaaReg
namespace Go.Proofs.Ytloffnamjgnkhaa.fnExactRateWithTaper
open Go.RowKit Mem

theorem szv_no {n m : Nat} (h : ¬ (n ≤ 1048576 ∧ m ≤ 1048576 ∧ n + m ≤ 1048576)) : szv 1048576 n m = -1 := by
  unfold szv
  split
  · rfl
  · rw [if_pos (by omega)]
theorem szv_yes {n m : Nat} (h : n + m ≤ 1048576) : szv 1048576 n m = 1048576 - n - m := by
  unfold szv
  rw [if_neg (by omega), if_neg (by omega)]

set_option maxHeartbeats 1000000 in
theorem walk (A : Option Addr) (n c : Nat) (bs : List Int) (B : Option Addr) (m d : Nat) (rs : List Int) (full : Int) (start : Int) (rate : Int) (cents : Int) (w : World) (h1 : Sl w A n (valsI bs)) (hn : n ≤ 9223372036854775807) (h2 : Sl w B m (valsI rs)) (hm : m ≤ 9223372036854775807) (_ : (Lit.int .i64 full).wf = true) (_ : (Lit.int .i64 start).wf = true) (_ : (Lit.int .i64 rate).wf = true) (_ : (Lit.int .i64 cents).wf = true) :
    Calls Try.prog 13 #[.agg #[.slice A n c, .slice B m d], .int .i64 full, .int .i64 start, .int .i64 rate, .int .i64 cents] w fun e w' => e = .returned (.bool true) ∧ Below w.heap.size w w' := by
  by_cases hsz : n ≤ 1048576 ∧ m ≤ 1048576 ∧ n + m ≤ 1048576
  · obtain ⟨ln, lm, lnm⟩ := hsz
    have HZ := Lib.hid (szv_yes lnm)
    have hz0 : ¬ (1048576 - (n : Int) - m < 0) := by omega
    have e1 : n = bs.length := by rw [← valsI_len, h1.len]
    have e2 : m = rs.length := by rw [← valsI_len, h2.len]
    subst e1
    subst e2
    have HA := Lib.hid h1
    have HB := Lib.hid h2
    clear h1 h2 lnm
    have HW := Lib.hid ((Kp.refl w).alloc (.cells #[.slice A bs.length c, .slice B rs.length d] 24))
    have hbx := Lib.hid (show w.heap.size < (w.alloc (.cells #[.slice A bs.length c, .slice B rs.length d] 24)).heap.size by simp)
    have hc0 : (w.alloc (.cells #[.slice A bs.length c, .slice B rs.length d] 24)).cell? ⟨w.heap.size, 0, none⟩ = some (.slice A bs.length c) := by simp [go_sem]
    have hc1 : (w.alloc (.cells #[.slice A bs.length c, .slice B rs.length d] 24)).cell? ⟨w.heap.size, 1, none⟩ = some (.slice B rs.length d) := by simp [go_sem]
    have C0 := Lib.hid hc0
    have C1 := Lib.hid hc1
    clear hc0 hc1
    go_enter Try.func13, Try.ntmps13
    go_wp2_with fail
    refine (szs_any A _ c B _ d 1048576 (by omega) (by omega) hn hm _).mono ?_
    rw [HZ.out]
    rintro e w1 ⟨rfl, hk1⟩
    have c0 : w1.cell? ⟨w.heap.size, 0, none⟩ = some (.slice A bs.length c) := (hk1.cell (p := ⟨w.heap.size, 0, none⟩) hbx.out (by simp)).trans C0.out
    have c1 : w1.cell? ⟨w.heap.size, 1, none⟩ = some (.slice B rs.length d) := (hk1.cell (p := ⟨w.heap.size, 1, none⟩) hbx.out (by simp)).trans C1.out
    have K1 := Lib.hid (HW.out.tr hk1)
    have b1 := Lib.hid (Nat.lt_of_lt_of_le hbx.out hk1.size)
    clear hk1 HW C0 C1 hbx
    go_wp2_with fail
    refine (tos_any A _ c bs B _ d rs _ (by exact HA.out.kp K1.out) (by exact HB.out.kp K1.out) ln lm).mono ?_
    rintro e w2 ⟨v, rfl, hk2, g1, g2, rfl, _, _, r1, r2⟩
    have c0' : w2.cell? ⟨w.heap.size, 0, none⟩ = some (.slice A bs.length c) := (hk2.cell (p := ⟨w.heap.size, 0, none⟩) b1.out (by simp)).trans c0
    have c1' : w2.cell? ⟨w.heap.size, 1, none⟩ = some (.slice B rs.length d) := (hk2.cell (p := ⟨w.heap.size, 1, none⟩) b1.out (by simp)).trans c1
    have K2 := Lib.hid (K1.out.tr hk2)
    have b2 := Lib.hid (Nat.lt_of_lt_of_le b1.out hk2.size)
    have R1 := Lib.hid r1
    have R2 := Lib.hid r2
    clear hk2 c0 c1 r1 r2 K1 b1
    go_wp2_with fail
    refine (ratet_spec _ _ _ bs _ _ _ rs full start rate cents _ (by exact R1.out.sl (valsI_len _)) (by exact R2.out.sl (valsI_len _)) ln lm).mono ?_
    rintro e w3 ⟨rfl, hk3⟩
    have c0 : w3.cell? ⟨w.heap.size, 0, none⟩ = some (.slice A bs.length c) := (hk3.cell (p := ⟨w.heap.size, 0, none⟩) b2.out (by simp)).trans c0'
    have c1 : w3.cell? ⟨w.heap.size, 1, none⟩ = some (.slice B rs.length d) := (hk3.cell (p := ⟨w.heap.size, 1, none⟩) b2.out (by simp)).trans c1'
    have K3 := Lib.hid (K2.out.tr hk3)
    have b3 := Lib.hid (Nat.lt_of_lt_of_le b2.out hk3.size)
    clear hk3 c0' c1' K2 b2 R1 R2
    go_wp2_with fail
    refine (tos_any A _ c bs B _ d rs _ (by exact HA.out.kp K3.out) (by exact HB.out.kp K3.out) ln lm).mono ?_
    rintro e w4 ⟨v, rfl, hk4, g3, g4, rfl, _, _, r3, r4⟩
    have c0' : w4.cell? ⟨w.heap.size, 0, none⟩ = some (.slice A bs.length c) := (hk4.cell (p := ⟨w.heap.size, 0, none⟩) b3.out (by simp)).trans c0
    have c1' : w4.cell? ⟨w.heap.size, 1, none⟩ = some (.slice B rs.length d) := (hk4.cell (p := ⟨w.heap.size, 1, none⟩) b3.out (by simp)).trans c1
    have K4 := Lib.hid (K3.out.tr hk4)
    have b4 := Lib.hid (Nat.lt_of_lt_of_le b3.out hk4.size)
    have R3 := Lib.hid r3
    have R4 := Lib.hid r4
    clear hk4 c0 c1 r3 r4 K3 b3
    go_wp2_with fail
    refine (ratet_impl _ _ _ bs _ _ _ rs full start rate cents _ (by exact ((R3.out.sl (valsI_len _)).alloc _)) (by exact ((R4.out.sl (valsI_len _)).alloc _)) ln lm).mono ?_
    rintro e w5 ⟨rfl, hk5⟩
    have hx0 : w5.cell? ⟨w4.heap.size, 0, none⟩ = some (.slice (some ⟨g3, 0, none⟩) bs.length bs.length) := (hk5.cell (p := ⟨w4.heap.size, 0, none⟩) (by simp) (by simp)).trans (by simp [go_sem])
    have hx1 : w5.cell? ⟨w4.heap.size, 1, none⟩ = some (.slice (some ⟨g4, 0, none⟩) rs.length rs.length) := (hk5.cell (p := ⟨w4.heap.size, 1, none⟩) (by simp) (by simp)).trans (by simp [go_sem])
    have hsx : w4.heap.size < w5.heap.size := Nat.lt_of_lt_of_le (by simp) hk5.size
    have hk45 : Kp [] w4 w5 := ((Kp.refl w4).alloc _).tr hk5
    have c0 : w5.cell? ⟨w.heap.size, 0, none⟩ = some (.slice A bs.length c) := (hk45.cell (p := ⟨w.heap.size, 0, none⟩) b4.out (by simp)).trans c0'
    have c1 : w5.cell? ⟨w.heap.size, 1, none⟩ = some (.slice B rs.length d) := (hk45.cell (p := ⟨w.heap.size, 1, none⟩) b4.out (by simp)).trans c1'
    have K5 := Lib.hid (K4.out.tr hk45)
    have b5 := Lib.hid (Nat.lt_of_lt_of_le b4.out hk45.size)
    have R5 := Lib.hid (R3.out.kp hk45)
    have R6 := Lib.hid (R4.out.kp hk45)
    have X0 := Lib.hid hx0
    have X1 := Lib.hid hx1
    have SX := Lib.hid hsx
    clear hk5 hk45 c0' c1' K4 b4 R3 R4 hx0 hx1 hsx
    go_wp2_with fail
    refine eq_region (sx := 14) (sa := 5) (d := 51) (px := w4.heap.size) (pa := w.heap.size) (by kernel_rfl) rfl (by decide) rfl rfl SX.out b5.out X0.out X1.out c0 c1 R5.out R6.out (HA.out.kp K5.out) (HB.out.kp K5.out) ln lm ?_
    intro v w6 hk6
    have K6 := Lib.hid (K5.out.tr hk6)
    clear hk6
    go_wp2_with fail
    go_ret
    exact ⟨rfl, K6.out.below0⟩
  · have HZ := Lib.hid (szv_no hsz)
    clear hsz h1 h2
    have HW := Lib.hid ((Kp.refl w).alloc (.cells #[.slice A n c, .slice B m d] 24))
    go_enter Try.func13, Try.ntmps13
    go_wp2_with fail
    refine (szs_any A _ c B _ d 1048576 (by omega) (by omega) hn hm _).mono ?_
    rw [HZ.out]
    rintro e w1 ⟨rfl, hk1⟩
    have K1 := Lib.hid (HW.out.tr hk1)
    clear hk1 HW
    go_wp2_with fail
    go_ret
    exact ⟨rfl, K1.out.below0⟩
end Go.Proofs.Ytloffnamjgnkhaa.fnExactRateWithTaper
