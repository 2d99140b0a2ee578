/-
  RateWithTaper: the reference's and the program's functions give the same. Conditions: the slices read as lists that are not too long.
-/
import Derived.Test.YtloffnamjgnkhaaRateAt
namespace Go.Proofs.Ytloffnamjgnkhaa
open Go.RowKit Mem

/-- The rate at an amount, with a taper's. -/
noncomputable def rtV (bs rs : List Int) (full start rate cents : Int) : Int := if start ≤ cents ∧ 0 < tpr full start rate cents then atV bs rs cents + rate else atV bs rs cents
open Classical in
/-- What RateWithTaper hands back. -/
noncomputable def rtRes (bs rs : List Int) (full start rate cents : Int) : Int × Bool :=
  if Asked bs rs cents 0 ∧ tapB full start rate = true then (rtV bs rs full start rate cents, true) else (0, false)
theorem rtRes_yes {bs rs : List Int} {full start rate cents : Int} (h : Asked bs rs cents 0) (h1 : tapB full start rate = true) : rtRes bs rs full start rate cents = (rtV bs rs full start rate cents, true) := by unfold rtRes; rw [if_pos ⟨h, h1⟩]
theorem rtRes_no {bs rs : List Int} {full start rate cents : Int} (h : ¬ (Asked bs rs cents 0 ∧ tapB full start rate = true)) : rtRes bs rs full start rate cents = (0, false) := by unfold rtRes; rw [if_neg h]

set_option maxHeartbeats 1000000 in
theorem ratet_impl (A : Option Addr) (n c : Nat) (bs : List Int) (B : Option Addr) (m d : Nat) (rs : List Int) (full start rate cents : Int) (w : World)
    (h : Sl w A n (valsI bs)) (h2 : Sl w B m (valsI rs)) (hn : n ≤ 1048576) (hm : m ≤ 1048576) :
    Calls Try.prog 47 #[.agg #[.slice A n c, .slice B m d], .int .i64 full, .int .i64 start, .int .i64 rate, .int .i64 cents] w fun e w' => e = .returned (.tuple #[.int .i64 (rtRes bs rs full start rate cents).1, .bool (rtRes bs rs full start rate cents).2]) ∧ Kp [] w w' := by
  have HA := Lib.hid h
  have HB := Lib.hid h2
  clear h h2
  have HW := Lib.hid ((Kp.refl w).alloc (.cells #[.slice A n c, .slice B m d] 27))
  have hbx := Lib.hid (show w.heap.size < (w.alloc (.cells #[.slice A n c, .slice B m d] 27)).heap.size by simp)
  have hc0 : (w.alloc (.cells #[.slice A n c, .slice B m d] 27)).cell? ⟨w.heap.size, 0, none⟩ = some (.slice A n c) := by simp [go_sem]
  have hc1 : (w.alloc (.cells #[.slice A n c, .slice B m d] 27)).cell? ⟨w.heap.size, 1, none⟩ = some (.slice B m d) := by simp [go_sem]
  have C0 := Lib.hid hc0
  have C1 := Lib.hid hc1
  clear hc0 hc1
  go_enter Try.func47, Try.ntmps47
  go_wp2_with fail
  refine (ask_impl A n c bs B m d rs cents 0 _ (by exact HA.out.kp HW.out) (by exact HB.out.kp HW.out) hn hm).mono ?_
  rintro e w1 ⟨b1, rfl, hb1, hk⟩
  have c0 : w1.cell? ⟨w.heap.size, 0, none⟩ = some (.slice A n c) := (hk.cell (p := ⟨w.heap.size, 0, none⟩) hbx.out (by simp)).trans C0.out
  have c1 : w1.cell? ⟨w.heap.size, 1, none⟩ = some (.slice B m d) := (hk.cell (p := ⟨w.heap.size, 1, none⟩) hbx.out (by simp)).trans C1.out
  have HK := Lib.hid (HW.out.tr hk)
  have HB1 := Lib.hid hb1
  clear hb1 hk HW C0 C1 hbx
  cases b1
  · have HF := Lib.hid (show rtRes bs rs full start rate cents = (0, false) from rtRes_no (fun hh => by have := HB1.out.2 hh.1; cases this))
    go_wp2_with fail
    go_ret2
    exact ⟨ret_ib HF.out rfl rfl, HK.out⟩
  · have HV := Lib.hid (HB1.out.1 rfl)
    cases ht : tapB full start rate
    · have HF := Lib.hid (show rtRes bs rs full start rate cents = (0, false) from rtRes_no (fun hh => by have := hh.2; rw [ht] at this; cases this))
      go_wp2_with (go_at_call 89; refine (tapers_impl _ _ _ _).mono ?_; rintro e w' ⟨rfl, rfl⟩)
      go_ret2
      exact ⟨ret_ib HF.out rfl rfl, HK.out⟩
    · skip
      have HF := Lib.hid (rtRes_yes HV.out ht)
      obtain ⟨q0, q1⟩ := inB_iff.1 HV.out.2.1
      obtain ⟨⟨f0, f1⟩, ⟨s0, s1⟩, r0, r1⟩ := tapB_iff ht
      obtain ⟨v, hav⟩ := at_ex (cents := cents) HV.out.1 q0
      obtain ⟨a0, a1⟩ := atV_bd hav HV.out.1
      clear hav
      by_cases hs : start ≤ cents
      · by_cases htp : 0 < tpr full start rate cents
        · have HG := Lib.hid (show rtV bs rs full start rate cents = atV bs rs cents + rate by unfold rtV; rw [if_pos ⟨hs, htp⟩])
          go_wp2_with (go_at_call 89; refine (tapers_impl _ _ _ _).mono ?_; rintro e w' ⟨rfl, rfl⟩)
          refine (rate_at_impl A n c bs B m d rs cents _ (by exact HA.out.kp HK.out) (by exact HB.out.kp HK.out) HV.out.1 q0).mono ?_
          rintro e w2 ⟨rfl, hk2⟩
          have HK2 := Lib.hid (HK.out.tr hk2)
          clear hk2
          go_wp2_with fail
          refine (taper_impl _ _ _ _ ht q0 q1 _).mono ?_
          rintro e w3 ⟨rfl, q, rfl⟩
          go_wp2_with fail
          go_ret2
          exact ⟨ret_ib HF.out HG.out.symm rfl, by first | exact HK2.out | exact HK2.out.drewN _⟩
        · have HG := Lib.hid (show rtV bs rs full start rate cents = atV bs rs cents by unfold rtV; rw [if_neg (fun hh => htp hh.2)])
          go_wp2_with (go_at_call 89; refine (tapers_impl _ _ _ _).mono ?_; rintro e w' ⟨rfl, rfl⟩)
          refine (rate_at_impl A n c bs B m d rs cents _ (by exact HA.out.kp HK.out) (by exact HB.out.kp HK.out) HV.out.1 q0).mono ?_
          rintro e w2 ⟨rfl, hk2⟩
          have HK2 := Lib.hid (HK.out.tr hk2)
          clear hk2
          go_wp2_with fail
          refine (taper_impl _ _ _ _ ht q0 q1 _).mono ?_
          rintro e w3 ⟨rfl, q, rfl⟩
          go_wp2_with fail
          go_ret2
          exact ⟨ret_ib HF.out HG.out.symm rfl, by first | exact HK2.out | exact HK2.out.drewN _⟩
      · have HG := Lib.hid (show rtV bs rs full start rate cents = atV bs rs cents by unfold rtV; rw [if_neg (fun hh => hs hh.1)])
        go_wp2_with (go_at_call 89; refine (tapers_impl _ _ _ _).mono ?_; rintro e w' ⟨rfl, rfl⟩)
        refine (rate_at_impl A n c bs B m d rs cents _ (by exact HA.out.kp HK.out) (by exact HB.out.kp HK.out) HV.out.1 q0).mono ?_
        rintro e w2 ⟨rfl, hk2⟩
        have HK2 := Lib.hid (HK.out.tr hk2)
        clear hk2
        go_wp2_with fail
        go_ret2
        exact ⟨ret_ib HF.out HG.out.symm rfl, by first | exact HK2.out | exact HK2.out.drewN _⟩

set_option maxHeartbeats 1000000 in
theorem ratet_spec (A : Option Addr) (n c : Nat) (bs : List Int) (B : Option Addr) (m d : Nat) (rs : List Int) (full start rate cents : Int) (w : World)
    (h : Sl w A n (valsI bs)) (h2 : Sl w B m (valsI rs)) (hn : n ≤ 1048576) (hm : m ≤ 1048576) :
    Calls Try.prog 46 #[.agg #[.slice A n c, .slice B m d], .int .i64 full, .int .i64 start, .int .i64 rate, .int .i64 cents] w fun e w' => e = .returned (.tuple #[.int .i64 (rtRes bs rs full start rate cents).1, .bool (rtRes bs rs full start rate cents).2]) ∧ Kp [] w w' := by
  have HA := Lib.hid h
  have HB := Lib.hid h2
  clear h h2
  have HW := Lib.hid ((Kp.refl w).alloc (.cells #[.slice A n c, .slice B m d] 27))
  have hbx := Lib.hid (show w.heap.size < (w.alloc (.cells #[.slice A n c, .slice B m d] 27)).heap.size by simp)
  have hc0 : (w.alloc (.cells #[.slice A n c, .slice B m d] 27)).cell? ⟨w.heap.size, 0, none⟩ = some (.slice A n c) := by simp [go_sem]
  have hc1 : (w.alloc (.cells #[.slice A n c, .slice B m d] 27)).cell? ⟨w.heap.size, 1, none⟩ = some (.slice B m d) := by simp [go_sem]
  have C0 := Lib.hid hc0
  have C1 := Lib.hid hc1
  clear hc0 hc1
  go_enter Try.func46, Try.ntmps46
  go_wp2_with fail
  refine (is_any A n c bs B m d rs _ _ C0.out C1.out (by exact HA.out.kp HW.out) (by exact HB.out.kp HW.out) hn hm).mono ?_
  rintro e w1 ⟨b1, rfl, hb1, q, rfl⟩
  have HB1 := Lib.hid hb1
  clear hb1
  cases b1
  · have HF := Lib.hid (show rtRes bs rs full start rate cents = (0, false) from rtRes_no (fun hh => by have := HB1.out.2 hh.1.1; cases this))
    go_wp2_with fail
    go_ret2
    exact ⟨ret_ib HF.out rfl rfl, HW.out.drewN _⟩
  · have HV0 := Lib.hid (HB1.out.1 rfl)
    cases hc : inB cents 0 1000000000000
    · have HF := Lib.hid (show rtRes bs rs full start rate cents = (0, false) from rtRes_no (fun hh => by have := hh.1.2.1; rw [hc] at this; cases this))
      go_wp2_with (go_at_call 63; refine (cents_spec _ _).mono ?_; rintro e w' ⟨rfl, rfl⟩)
      go_ret2
      exact ⟨ret_ib HF.out rfl rfl, HW.out.drewN _⟩
    · have HV := Lib.hid (show Asked bs rs cents 0 from ⟨HV0.out, hc, rfl⟩)
      cases ht : tapB full start rate
      · have HF := Lib.hid (show rtRes bs rs full start rate cents = (0, false) from rtRes_no (fun hh => by have := hh.2; rw [ht] at this; cases this))
        go_wp2_with (first | (go_at_call 87; refine (tapers_spec _ _ _ _).mono ?_; rintro e w' ⟨rfl, rfl⟩) | (go_at_call 63; refine (cents_spec _ _).mono ?_; rintro e w' ⟨rfl, rfl⟩))
        go_ret2
        exact ⟨ret_ib HF.out rfl rfl, HW.out.drewN _⟩
      · skip
        have HF := Lib.hid (rtRes_yes HV.out ht)
        obtain ⟨q0, q1⟩ := inB_iff.1 HV.out.2.1
        obtain ⟨⟨f0, f1⟩, ⟨s0, s1⟩, r0, r1⟩ := tapB_iff ht
        obtain ⟨v, hav⟩ := at_ex (cents := cents) HV.out.1 q0
        obtain ⟨a0, a1⟩ := atV_bd hav HV.out.1
        clear hav
        by_cases hs : start ≤ cents
        · by_cases htp : 0 < tpr full start rate cents
          · have HG := Lib.hid (show rtV bs rs full start rate cents = atV bs rs cents + rate by unfold rtV; rw [if_pos ⟨hs, htp⟩])
            go_wp2_with (first | (go_at_call 87; refine (tapers_spec _ _ _ _).mono ?_; rintro e w' ⟨rfl, rfl⟩) | (go_at_call 63; refine (cents_spec _ _).mono ?_; rintro e w' ⟨rfl, rfl⟩))
            refine (at_spec A n c bs B m d rs _ cents _ (by exact C0.out) (by exact C1.out) (by exact HA.out.kp (HW.out.drewN _)) (by exact HB.out.kp (HW.out.drewN _)) HV.out.1 q0).mono ?_
            rintro e w2 ⟨rfl, rfl⟩
            go_wp2_with fail
            refine (taper_spec _ _ _ _ ht q0 q1 _).mono ?_
            rintro e w3 ⟨rfl, rfl⟩
            go_wp2_with fail
            go_ret2
            exact ⟨ret_ib HF.out HG.out.symm rfl, HW.out.drewN _⟩
          · have HG := Lib.hid (show rtV bs rs full start rate cents = atV bs rs cents by unfold rtV; rw [if_neg (fun hh => htp hh.2)])
            go_wp2_with (first | (go_at_call 87; refine (tapers_spec _ _ _ _).mono ?_; rintro e w' ⟨rfl, rfl⟩) | (go_at_call 63; refine (cents_spec _ _).mono ?_; rintro e w' ⟨rfl, rfl⟩))
            refine (at_spec A n c bs B m d rs _ cents _ (by exact C0.out) (by exact C1.out) (by exact HA.out.kp (HW.out.drewN _)) (by exact HB.out.kp (HW.out.drewN _)) HV.out.1 q0).mono ?_
            rintro e w2 ⟨rfl, rfl⟩
            go_wp2_with fail
            refine (taper_spec _ _ _ _ ht q0 q1 _).mono ?_
            rintro e w3 ⟨rfl, rfl⟩
            go_wp2_with fail
            go_ret2
            exact ⟨ret_ib HF.out HG.out.symm rfl, HW.out.drewN _⟩
        · have HG := Lib.hid (show rtV bs rs full start rate cents = atV bs rs cents by unfold rtV; rw [if_neg (fun hh => hs hh.1)])
          go_wp2_with (first | (go_at_call 87; refine (tapers_spec _ _ _ _).mono ?_; rintro e w' ⟨rfl, rfl⟩) | (go_at_call 63; refine (cents_spec _ _).mono ?_; rintro e w' ⟨rfl, rfl⟩))
          refine (at_spec A n c bs B m d rs _ cents _ (by exact C0.out) (by exact C1.out) (by exact HA.out.kp (HW.out.drewN _)) (by exact HB.out.kp (HW.out.drewN _)) HV.out.1 q0).mono ?_
          rintro e w2 ⟨rfl, rfl⟩
          go_wp2_with fail
          go_ret2
          exact ⟨ret_ib HF.out HG.out.symm rfl, HW.out.drewN _⟩
end Go.Proofs.Ytloffnamjgnkhaa
