/-
  LeastDue: the reference's and the program's functions give the same. Conditions: the slices read as lists that are not too long.
-/
import Derived.Test.YtloffnamjgnkhaaDue
namespace Go.Proofs.Ytloffnamjgnkhaa
open Go.RowKit Mem

/-- What a share of what is above a free amount comes to. -/
noncomputable def flatV (rate free cents round : Int) : Int := if free < cents then rnd ((cents - free) * rate) 10000 round else 0
open Classical in
/-- What LeastDue hands back. -/
noncomputable def leastRes (bs rs : List Int) (rate free cents round : Int) : Int × Bool :=
  if Asked bs rs cents round ∧ inB rate 0 10000 = true ∧ inB free 0 1000000000000 = true then (max (dueV bs rs cents round) (flatV rate free cents round), true) else (0, false)
theorem leastRes_yes {bs rs : List Int} {rate free cents round : Int} (h : Asked bs rs cents round) (h1 : inB rate 0 10000 = true) (h2 : inB free 0 1000000000000 = true) : leastRes bs rs rate free cents round = (max (dueV bs rs cents round) (flatV rate free cents round), true) := by unfold leastRes; rw [if_pos ⟨h, h1, h2⟩]
theorem leastRes_no {bs rs : List Int} {rate free cents round : Int} (h : ¬ (Asked bs rs cents round ∧ inB rate 0 10000 = true ∧ inB free 0 1000000000000 = true)) : leastRes bs rs rate free cents round = (0, false) := by unfold leastRes; rw [if_neg h]
theorem rnd_zero {round : Int} : rnd 0 10000 round = 0 := by
  unfold rnd
  split <;> (try split) <;> (try split) <;> (try split) <;> omega

set_option maxHeartbeats 1000000 in
theorem least_impl (A : Option Addr) (n c : Nat) (bs : List Int) (B : Option Addr) (m d : Nat) (rs : List Int) (rate free cents round : Int) (w : World)
    (h : Sl w A n (valsI bs)) (h2 : Sl w B m (valsI rs)) (hn : n ≤ 1048576) (hm : m ≤ 1048576) :
    Calls Try.prog 49 #[.agg #[.slice A n c, .slice B m d], .int .i64 rate, .int .i64 free, .int .i64 cents, .int .i64 round] w fun e w' => e = .returned (.tuple #[.int .i64 (leastRes bs rs rate free cents round).1, .bool (leastRes bs rs rate free cents round).2]) ∧ Kp [] w w' := by
  have HA := Lib.hid h
  have HB := Lib.hid h2
  clear h h2
  have HW := Lib.hid ((Kp.refl w).alloc (.cells #[.slice A n c, .slice B m d] 27))
  have hbx := Lib.hid (show w.heap.size < (w.alloc (.cells #[.slice A n c, .slice B m d] 27)).heap.size by simp)
  have hc0 : (w.alloc (.cells #[.slice A n c, .slice B m d] 27)).cell? ⟨w.heap.size, 0, none⟩ = some (.slice A n c) := by simp [go_sem]
  have hc1 : (w.alloc (.cells #[.slice A n c, .slice B m d] 27)).cell? ⟨w.heap.size, 1, none⟩ = some (.slice B m d) := by simp [go_sem]
  have C0 := Lib.hid hc0
  have C1 := Lib.hid hc1
  clear hc0 hc1
  go_enter Try.func49, Try.ntmps49
  go_wp2_with fail
  refine (ask_impl A n c bs B m d rs cents round _ (by exact HA.out.kp HW.out) (by exact HB.out.kp HW.out) hn hm).mono ?_
  rintro e w1 ⟨b1, rfl, hb1, hk⟩
  have c0 : w1.cell? ⟨w.heap.size, 0, none⟩ = some (.slice A n c) := (hk.cell (p := ⟨w.heap.size, 0, none⟩) hbx.out (by simp)).trans C0.out
  have c1 : w1.cell? ⟨w.heap.size, 1, none⟩ = some (.slice B m d) := (hk.cell (p := ⟨w.heap.size, 1, none⟩) hbx.out (by simp)).trans C1.out
  have HK := Lib.hid (HW.out.tr hk)
  have HB1 := Lib.hid hb1
  clear hb1 hk HW C0 C1 hbx
  cases b1
  · have HF := Lib.hid (show leastRes bs rs rate free cents round = (0, false) from leastRes_no (fun hh => by have := HB1.out.2 hh.1; cases this))
    go_wp2_with fail
    go_ret2
    exact ⟨ret_ib HF.out rfl rfl, HK.out⟩
  · have HV := Lib.hid (HB1.out.1 rfl)
    cases hr : inB rate 0 10000
    · have HF := Lib.hid (show leastRes bs rs rate free cents round = (0, false) from leastRes_no (fun hh => by have := hh.2.1; rw [hr] at this; cases this))
      go_wp2_with (go_at_call 93; refine (rate_impl _ _).mono ?_; rintro e w' ⟨rfl, rfl⟩)
      go_ret2
      exact ⟨ret_ib HF.out rfl rfl, HK.out⟩
    · cases hf : inB free 0 1000000000000
      · have HF := Lib.hid (show leastRes bs rs rate free cents round = (0, false) from leastRes_no (fun hh => by have := hh.2.2; rw [hf] at this; cases this))
        go_wp2_with (first | (go_at_call 93; refine (rate_impl _ _).mono ?_; rintro e w' ⟨rfl, rfl⟩) | (go_at_call 94; refine (cents_impl _ _).mono ?_; rintro e w' ⟨rfl, rfl⟩))
        go_ret2
        exact ⟨ret_ib HF.out rfl rfl, HK.out⟩
      · have HF := Lib.hid (leastRes_yes HV.out hr hf)
        obtain ⟨x0, x1, d0, d1⟩ := due_bd HV.out
        obtain ⟨q0, q1⟩ := inB_iff.1 HV.out.2.1
        obtain ⟨m0, m1⟩ := inB_iff.1 HV.out.2.2
        obtain ⟨r0, r1⟩ := inB_iff.1 hr
        obtain ⟨f0, f1⟩ := inB_iff.1 hf
        by_cases hlt : free ≤ cents
        · obtain ⟨p0, p1⟩ := mul_bd (show 0 ≤ cents - free by omega) (show cents - free ≤ 1000000000000 by omega) r0 r1
          obtain ⟨b0, b1⟩ := rnd_bd ((cents - free) * rate) 10000 round p0 (by omega)
          have b2 : rnd ((cents - free) * rate) 10000 round ≤ 10000000000000 := by omega
          have HG := Lib.hid (show flatV rate free cents round = rnd ((cents - free) * rate) 10000 round by
            unfold flatV
            split
            · rfl
            · rw [show cents - free = 0 by omega, Int.zero_mul, rnd_zero])
          go_wp2_with (first | (go_at_call 93; refine (rate_impl _ _).mono ?_; rintro e w' ⟨rfl, rfl⟩) | (go_at_call 94; refine (cents_impl _ _).mono ?_; rintro e w' ⟨rfl, rfl⟩))
          refine (round_impl _ _ _ p0 (by omega) (by omega) (by omega) m0 m1 _).mono ?_
          rintro e w2 ⟨rfl, q, rfl⟩
          go_wp2_with fail
          refine (due_impl A n c bs B m d rs cents round _ (by exact HA.out.kp (HK.out.drewN _)) (by exact HB.out.kp (HK.out.drewN _)) HV.out).mono ?_
          rintro e w3 ⟨rfl, hk3⟩
          have HK3 := Lib.hid ((HK.out.drewN q).tr hk3)
          clear hk3
          go_wp2_with fail
          all_goals
            go_ret2
            exact ⟨ret_ib HF.out (by rw [HG.out]; first | rfl | omega | (split <;> omega)) rfl, HK3.out⟩
        · have HG := Lib.hid (show flatV rate free cents round = 0 by unfold flatV; rw [if_neg (by omega)])
          go_wp2_with (first | (go_at_call 93; refine (rate_impl _ _).mono ?_; rintro e w' ⟨rfl, rfl⟩) | (go_at_call 94; refine (cents_impl _ _).mono ?_; rintro e w' ⟨rfl, rfl⟩))
          refine (due_impl A n c bs B m d rs cents round _ (by exact HA.out.kp HK.out) (by exact HB.out.kp HK.out) HV.out).mono ?_
          rintro e w3 ⟨rfl, hk3⟩
          have HK3 := Lib.hid (HK.out.tr hk3)
          clear hk3
          go_wp2_with fail
          all_goals
            go_ret2
            exact ⟨ret_ib HF.out (by rw [HG.out]; first | rfl | omega | (split <;> omega)) rfl, HK3.out⟩

set_option maxHeartbeats 1000000 in
theorem least_spec (A : Option Addr) (n c : Nat) (bs : List Int) (B : Option Addr) (m d : Nat) (rs : List Int) (rate free cents round : Int) (w : World)
    (h : Sl w A n (valsI bs)) (h2 : Sl w B m (valsI rs)) (hn : n ≤ 1048576) (hm : m ≤ 1048576) :
    Calls Try.prog 48 #[.agg #[.slice A n c, .slice B m d], .int .i64 rate, .int .i64 free, .int .i64 cents, .int .i64 round] w fun e w' => e = .returned (.tuple #[.int .i64 (leastRes bs rs rate free cents round).1, .bool (leastRes bs rs rate free cents round).2]) ∧ Kp [] w w' := by
  have HA := Lib.hid h
  have HB := Lib.hid h2
  clear h h2
  have HW := Lib.hid ((Kp.refl w).alloc (.cells #[.slice A n c, .slice B m d] 27))
  have hbx := Lib.hid (show w.heap.size < (w.alloc (.cells #[.slice A n c, .slice B m d] 27)).heap.size by simp)
  have hc0 : (w.alloc (.cells #[.slice A n c, .slice B m d] 27)).cell? ⟨w.heap.size, 0, none⟩ = some (.slice A n c) := by simp [go_sem]
  have hc1 : (w.alloc (.cells #[.slice A n c, .slice B m d] 27)).cell? ⟨w.heap.size, 1, none⟩ = some (.slice B m d) := by simp [go_sem]
  have C0 := Lib.hid hc0
  have C1 := Lib.hid hc1
  clear hc0 hc1
  go_enter Try.func48, Try.ntmps48
  go_wp2_with fail
  refine (can_spec A n c bs B m d rs _ cents round _ C0.out C1.out (by exact HA.out.kp HW.out) (by exact HB.out.kp HW.out) hn hm).mono ?_
  rintro e w1 ⟨b1, rfl, hb1, q, rfl⟩
  have HB1 := Lib.hid hb1
  clear hb1
  cases b1
  · have HF := Lib.hid (show leastRes bs rs rate free cents round = (0, false) from leastRes_no (fun hh => by have := HB1.out.2 hh.1; cases this))
    go_wp2_with fail
    go_ret2
    exact ⟨ret_ib HF.out rfl rfl, HW.out.drewN _⟩
  · have HV := Lib.hid (HB1.out.1 rfl)
    cases hr : inB rate 0 10000
    · have HF := Lib.hid (show leastRes bs rs rate free cents round = (0, false) from leastRes_no (fun hh => by have := hh.2.1; rw [hr] at this; cases this))
      go_wp2_with (go_at_call 68; refine (rate_spec _ _).mono ?_; rintro e w' ⟨rfl, rfl⟩)
      go_ret2
      exact ⟨ret_ib HF.out rfl rfl, HW.out.drewN _⟩
    · cases hf : inB free 0 1000000000000
      · have HF := Lib.hid (show leastRes bs rs rate free cents round = (0, false) from leastRes_no (fun hh => by have := hh.2.2; rw [hf] at this; cases this))
        go_wp2_with (first | (go_at_call 68; refine (rate_spec _ _).mono ?_; rintro e w' ⟨rfl, rfl⟩) | (go_at_call 63; refine (cents_spec _ _).mono ?_; rintro e w' ⟨rfl, rfl⟩))
        go_ret2
        exact ⟨ret_ib HF.out rfl rfl, HW.out.drewN _⟩
      · have HF := Lib.hid (leastRes_yes HV.out hr hf)
        obtain ⟨x0, x1, d0, d1⟩ := due_bd HV.out
        obtain ⟨q0, q1⟩ := inB_iff.1 HV.out.2.1
        obtain ⟨m0, m1⟩ := inB_iff.1 HV.out.2.2
        obtain ⟨r0, r1⟩ := inB_iff.1 hr
        obtain ⟨f0, f1⟩ := inB_iff.1 hf
        have HX := Lib.hid (due_spec A n c bs B m d rs w.heap.size cents round ((w.alloc (.cells #[.slice A n c, .slice B m d] 27)).drewN q) C0.out C1.out (HA.out.kp (HW.out.drewN _)) (HB.out.kp (HW.out.drewN _)) HV.out)
        by_cases hlt : free < cents
        · obtain ⟨p0, p1⟩ := mul_bd (show 0 ≤ cents - free by omega) (show cents - free ≤ 1000000000000 by omega) r0 r1
          obtain ⟨b0, b1⟩ := rnd_bd ((cents - free) * rate) 10000 round p0 (by omega)
          have b2 : rnd ((cents - free) * rate) 10000 round ≤ 10000000000000 := by omega
          have HG := Lib.hid (show flatV rate free cents round = rnd ((cents - free) * rate) 10000 round by unfold flatV; rw [if_pos hlt])
          go_wp2_with (first | (go_at_call 68; refine (rate_spec _ _).mono ?_; rintro e w' ⟨rfl, rfl⟩) | (go_at_call 63; refine (cents_spec _ _).mono ?_; rintro e w' ⟨rfl, rfl⟩))
          refine (round_spec _ _ _ p0 (by omega) (by omega) (by omega) m0 m1 _).mono ?_
          rintro e w2 ⟨rfl, rfl⟩
          go_wp2_with fail
          refine HX.out.mono ?_
          rintro e w3 ⟨rfl, q3, rfl⟩
          go_wp2_with fail
          refine (max_spec _ _ _).mono ?_
          rintro e w4 ⟨rfl, rfl⟩
          go_wp2_with fail
          go_ret2
          exact ⟨ret_ib HF.out (by rw [HG.out]; exact Int.max_comm _ _) rfl, by first | exact HW.out.drewN _ | exact (HW.out.drewN _).drewN _⟩
        · have HG := Lib.hid (show flatV rate free cents round = 0 by unfold flatV; rw [if_neg hlt])
          go_wp2_with (first | (go_at_call 68; refine (rate_spec _ _).mono ?_; rintro e w' ⟨rfl, rfl⟩) | (go_at_call 63; refine (cents_spec _ _).mono ?_; rintro e w' ⟨rfl, rfl⟩))
          refine HX.out.mono ?_
          rintro e w3 ⟨rfl, q3, rfl⟩
          go_wp2_with fail
          refine (max_spec _ _ _).mono ?_
          rintro e w4 ⟨rfl, rfl⟩
          go_wp2_with fail
          go_ret2
          exact ⟨ret_ib HF.out (by rw [HG.out]; exact Int.max_comm _ _) rfl, by first | exact HW.out.drewN _ | exact (HW.out.drewN _).drewN _⟩
end Go.Proofs.Ytloffnamjgnkhaa
