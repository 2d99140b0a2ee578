/-
  RateAt: the reference's and the program's functions give the same. Conditions: the slices read as lists that are not too long.
-/
import Derived.Test.YtloffnamjgnkhaaAt
namespace Go.Proofs.Ytloffnamjgnkhaa
open Go.RowKit Mem

open Classical in
/-- What RateAt hands back. -/
noncomputable def rateRes (bs rs : List Int) (cents : Int) : Int × Bool := if Asked bs rs cents 0 then (atV bs rs cents, true) else (0, false)
theorem rateRes_yes {bs rs : List Int} {cents : Int} (h : Asked bs rs cents 0) : rateRes bs rs cents = (atV bs rs cents, true) := by unfold rateRes; rw [if_pos h]
theorem rateRes_no {bs rs : List Int} {cents : Int} (h : ¬ Asked bs rs cents 0) : rateRes bs rs cents = (0, false) := by unfold rateRes; rw [if_neg h]
theorem ret_ib {a b : Int} {c d : Bool} {p : Int × Bool} (h : p = (b, d)) (h1 : a = b) (h2 : c = d) : Ending.returned (.tuple #[.int .i64 a, .bool c]) = .returned (.tuple #[.int .i64 p.1, .bool p.2]) := by rw [h, h1, h2]

set_option maxHeartbeats 1000000 in
theorem rateAt_impl (A : Option Addr) (n c : Nat) (bs : List Int) (B : Option Addr) (m d : Nat) (rs : List Int) (cents : Int) (w : World)
    (h : Sl w A n (valsI bs)) (h2 : Sl w B m (valsI rs)) (hn : n ≤ 1048576) (hm : m ≤ 1048576) :
    Calls Try.prog 26 #[.agg #[.slice A n c, .slice B m d], .int .i64 cents] w fun e w' => e = .returned (.tuple #[.int .i64 (rateRes bs rs cents).1, .bool (rateRes bs rs cents).2]) ∧ Kp [] w w' := by
  have HA := Lib.hid h
  have HB := Lib.hid h2
  clear h h2
  have HW := Lib.hid ((Kp.refl w).alloc (.cells #[.slice A n c, .slice B m d] 27))
  have hbx := Lib.hid (show w.heap.size < (w.alloc (.cells #[.slice A n c, .slice B m d] 27)).heap.size by simp)
  have hc0 : (w.alloc (.cells #[.slice A n c, .slice B m d] 27)).cell? ⟨w.heap.size, 0, none⟩ = some (.slice A n c) := by simp [go_sem]
  have hc1 : (w.alloc (.cells #[.slice A n c, .slice B m d] 27)).cell? ⟨w.heap.size, 1, none⟩ = some (.slice B m d) := by simp [go_sem]
  have C0 := Lib.hid hc0
  have C1 := Lib.hid hc1
  clear hc0 hc1
  go_enter Try.func26, Try.ntmps26
  go_wp2_with fail
  refine (ask_impl A n c bs B m d rs cents 0 _ (by exact HA.out.kp HW.out) (by exact HB.out.kp HW.out) hn hm).mono ?_
  rintro e w1 ⟨b1, rfl, hb1, hk⟩
  have c0 : w1.cell? ⟨w.heap.size, 0, none⟩ = some (.slice A n c) := (hk.cell (p := ⟨w.heap.size, 0, none⟩) hbx.out (by simp)).trans C0.out
  have c1 : w1.cell? ⟨w.heap.size, 1, none⟩ = some (.slice B m d) := (hk.cell (p := ⟨w.heap.size, 1, none⟩) hbx.out (by simp)).trans C1.out
  have HK := Lib.hid (HW.out.tr hk)
  have HB1 := Lib.hid hb1
  clear hb1 hk HW C0 C1 hbx
  cases b1
  · have HF := Lib.hid (show rateRes bs rs cents = (0, false) from rateRes_no (fun hh => by have := HB1.out.2 hh; cases this))
    go_wp2_with fail
    go_ret2
    exact ⟨ret_ib HF.out rfl rfl, HK.out⟩
  · have HV := Lib.hid (HB1.out.1 rfl)
    have HF := Lib.hid (show rateRes bs rs cents = _ from rateRes_yes HV.out)
    go_wp2_with fail
    refine (rate_at_impl A n c bs B m d rs cents _ (by exact HA.out.kp HK.out) (by exact HB.out.kp HK.out) HV.out.1 ((inB_iff.1 HV.out.2.1).1)).mono ?_
    rintro e w2 ⟨rfl, hk2⟩
    have HK2 := Lib.hid (HK.out.tr hk2)
    clear hk2
    go_wp2_with fail
    go_ret2
    exact ⟨ret_ib HF.out rfl rfl, HK2.out⟩

set_option maxHeartbeats 1000000 in
theorem rateAt_spec (A : Option Addr) (n c : Nat) (bs : List Int) (B : Option Addr) (m d : Nat) (rs : List Int) (cents : Int) (w : World)
    (h : Sl w A n (valsI bs)) (h2 : Sl w B m (valsI rs)) (hn : n ≤ 1048576) (hm : m ≤ 1048576) :
    Calls Try.prog 25 #[.agg #[.slice A n c, .slice B m d], .int .i64 cents] w fun e w' => e = .returned (.tuple #[.int .i64 (rateRes bs rs cents).1, .bool (rateRes bs rs cents).2]) ∧ Kp [] w w' := by
  have HA := Lib.hid h
  have HB := Lib.hid h2
  clear h h2
  have HW := Lib.hid ((Kp.refl w).alloc (.cells #[.slice A n c, .slice B m d] 27))
  have hc0 : (w.alloc (.cells #[.slice A n c, .slice B m d] 27)).cell? ⟨w.heap.size, 0, none⟩ = some (.slice A n c) := by simp [go_sem]
  have hc1 : (w.alloc (.cells #[.slice A n c, .slice B m d] 27)).cell? ⟨w.heap.size, 1, none⟩ = some (.slice B m d) := by simp [go_sem]
  have C0 := Lib.hid hc0
  have C1 := Lib.hid hc1
  clear hc0 hc1
  go_enter Try.func25, Try.ntmps25
  go_wp2_with fail
  refine (is_any A n c bs B m d rs _ _ C0.out C1.out (by exact HA.out.kp HW.out) (by exact HB.out.kp HW.out) hn hm).mono ?_
  rintro e w1 ⟨b1, rfl, hb1, q, rfl⟩
  have HB1 := Lib.hid hb1
  clear hb1
  cases b1
  · have HF := Lib.hid (show rateRes bs rs cents = (0, false) from rateRes_no (fun hh => by have := HB1.out.2 hh.1; cases this))
    go_wp2_with fail
    go_ret2
    exact ⟨ret_ib HF.out rfl rfl, HW.out.drewN _⟩
  · have HV := Lib.hid (HB1.out.1 rfl)
    cases hc : inB cents 0 1000000000000
    · have HF := Lib.hid (show rateRes bs rs cents = (0, false) from rateRes_no (fun hh => by have := hh.2.1; rw [hc] at this; cases this))
      go_wp2_with (go_at_call 63; refine (cents_spec _ _).mono ?_; rintro e w' ⟨rfl, rfl⟩)
      go_ret2
      exact ⟨ret_ib HF.out rfl rfl, HW.out.drewN _⟩
    · have HF := Lib.hid (show rateRes bs rs cents = _ from rateRes_yes ⟨HV.out, hc, rfl⟩)
      go_wp2_with (go_at_call 63; refine (cents_spec _ _).mono ?_; rintro e w' ⟨rfl, rfl⟩)
      refine (at_spec A n c bs B m d rs _ cents _ (by exact C0.out) (by exact C1.out) (by exact HA.out.kp (HW.out.drewN _)) (by exact HB.out.kp (HW.out.drewN _)) HV.out ((inB_iff.1 hc).1)).mono ?_
      rintro e w' ⟨rfl, rfl⟩
      go_wp2_with fail
      go_ret2
      exact ⟨ret_ib HF.out rfl rfl, HW.out.drewN _⟩
end Go.Proofs.Ytloffnamjgnkhaa
