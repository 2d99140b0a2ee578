/-
  The due and the net of an amount; DueOf and NetOf: the reference's and the program's functions give the same. Conditions: the slices read as lists that are not too long.
-/
import Derived.Test.YtloffnamjgnkhaaExact
import Derived.Test.YtloffnamjgnkhaaRateAt
namespace Go.Proofs.Ytloffnamjgnkhaa
open Go.RowKit Mem

theorem ex_ex {bs rs : List Int} {cents : Int} : ∃ v, ExIs bs rs cents v := by
  have : ∀ k, k ≤ bs.length → (∃ v, ExIs bs rs cents v) ∨ ∀ i, i < k → bs.getD i 0 < cents := by
    intro k
    induction k with
    | zero => exact fun _ => .inr fun i hi => absurd hi (by omega)
    | succ k ih =>
      intro hk
      rcases ih (by omega) with h | h
      · exact .inl h
      · by_cases hc : bs.getD k 0 < cents
        · refine .inr fun i hi => ?_
          by_cases hik : i = k
          · subst hik; exact hc
          · exact h i (by omega)
        · exact .inl ⟨_, k, by omega, rfl, h, fun _ => by omega⟩
  rcases this _ (Nat.le_refl _) with h | h
  · exact h
  · exact ⟨_, _, Nat.le_refl _, rfl, h, fun hh => absurd hh (by omega)⟩

/-- The due. -/
noncomputable def dueV (bs rs : List Int) (cents round : Int) : Int := rnd (exV bs rs cents) 10000 round
/-- The net. -/
noncomputable def netV (bs rs : List Int) (cents round : Int) : Int := cents - dueV bs rs cents round

theorem due_bd {bs rs : List Int} {cents round : Int} (h : Asked bs rs cents round) : 0 ≤ exV bs rs cents ∧ exV bs rs cents ≤ 10000000000000000 ∧ 0 ≤ dueV bs rs cents round ∧ dueV bs rs cents round ≤ 1000000000001 := by
  obtain ⟨hv, hc, hr⟩ := h
  obtain ⟨c0, c1⟩ := inB_iff.1 hc
  obtain ⟨v, hx⟩ := ex_ex (bs := bs) (rs := rs) (cents := cents)
  have e := exV_bd hv c0 c1 hx
  rw [← exV_eq hx] at e
  have := rnd_bd (exV bs rs cents) 10000 round e.1 (by omega)
  unfold dueV
  omega

set_option maxHeartbeats 1000000 in
theorem due_spec (A : Option Addr) (n c : Nat) (bs : List Int) (B : Option Addr) (m d : Nat) (rs : List Int) (p : Nat) (cents round : Int) (w : World) (hp0 : w.cell? ⟨p, 0, none⟩ = some (.slice A n c)) (hp1 : w.cell? ⟨p, 1, none⟩ = some (.slice B m d))
    (h : Sl w A n (valsI bs)) (h2 : Sl w B m (valsI rs)) (hv : Asked bs rs cents round) :
    Calls Try.prog 83 #[.pointer (some ⟨p, 0, none⟩), .int .i64 cents, .int .i64 round] w fun e w' => e = .returned (.int .i64 (dueV bs rs cents round)) ∧ ∃ q, w' = w.drewN q := by
  obtain ⟨x0, x1, d0, d1⟩ := due_bd hv
  obtain ⟨hv0, hc, hr⟩ := hv
  obtain ⟨c0, c1⟩ := inB_iff.1 hc
  obtain ⟨r0, r1⟩ := inB_iff.1 hr
  have HE := Lib.hid (exact_spec A n c bs B m d rs p cents w hp0 hp1 h h2 hv0 c0 c1)
  clear h h2 hp0 hp1 hv0 hc hr
  go_enter Try.func83, Try.ntmps83
  go_wp2_with fail
  refine HE.out.mono ?_
  rintro e w1 ⟨rfl, q, rfl⟩
  go_wp2_with fail
  refine (round_spec _ _ _ x0 (by omega) (by omega) (by omega) r0 r1 _).mono ?_
  rintro e w' ⟨rfl, rfl⟩
  go_wp2_with fail
  go_ret
  exact ⟨rfl, _, rfl⟩

set_option maxHeartbeats 1000000 in
theorem net_spec (A : Option Addr) (n c : Nat) (bs : List Int) (B : Option Addr) (m d : Nat) (rs : List Int) (p : Nat) (cents round : Int) (w : World) (hp0 : w.cell? ⟨p, 0, none⟩ = some (.slice A n c)) (hp1 : w.cell? ⟨p, 1, none⟩ = some (.slice B m d))
    (h : Sl w A n (valsI bs)) (h2 : Sl w B m (valsI rs)) (hv : Asked bs rs cents round) :
    Calls Try.prog 85 #[.pointer (some ⟨p, 0, none⟩), .int .i64 cents, .int .i64 round] w fun e w' => e = .returned (.int .i64 (netV bs rs cents round)) ∧ ∃ q, w' = w.drewN q := by
  obtain ⟨x0, x1, d0, d1⟩ := due_bd hv
  have HE := Lib.hid (due_spec A n c bs B m d rs p cents round w hp0 hp1 h h2 hv)
  obtain ⟨hv0, hc, hr⟩ := hv
  obtain ⟨c0, c1⟩ := inB_iff.1 hc
  clear h h2 hp0 hp1 hv0 hc hr
  go_enter Try.func85, Try.ntmps85
  go_wp2_with fail
  refine HE.out.mono ?_
  rintro e w1 ⟨rfl, q, rfl⟩
  go_wp2_with fail
  go_ret
  exact ⟨rfl, _, rfl⟩

set_option maxHeartbeats 1000000 in
theorem due_impl (A : Option Addr) (n c : Nat) (bs : List Int) (B : Option Addr) (m d : Nat) (rs : List Int) (cents round : Int) (w : World)
    (h : Sl w A n (valsI bs)) (h2 : Sl w B m (valsI rs)) (hv : Asked bs rs cents round) :
    Calls Try.prog 84 #[.agg #[.slice A n c, .slice B m d], .int .i64 cents, .int .i64 round] w fun e w' => e = .returned (.int .i64 (dueV bs rs cents round)) ∧ Kp [] w w' := by
  obtain ⟨x0, x1, d0, d1⟩ := due_bd hv
  obtain ⟨hv0, hc, hr⟩ := hv
  obtain ⟨c0, c1⟩ := inB_iff.1 hc
  obtain ⟨r0, r1⟩ := inB_iff.1 hr
  have HW := Lib.hid ((Kp.refl w).alloc (.cells #[.slice A n c, .slice B m d] 27))
  have HE := Lib.hid (exact_impl A n c bs B m d rs cents (w.alloc (.cells #[.slice A n c, .slice B m d] 27)) (h.kp HW.out) (h2.kp HW.out) hv0 c0 c1)
  clear h h2 hv0 hc hr
  go_enter Try.func84, Try.ntmps84
  go_wp2_with fail
  refine HE.out.mono ?_
  rintro e w1 ⟨rfl, hk⟩
  have HK := Lib.hid (HW.out.tr hk)
  clear hk
  go_wp2_with fail
  refine (round_impl _ _ _ x0 (by omega) (by omega) (by omega) r0 r1 _).mono ?_
  rintro e w' ⟨rfl, q, rfl⟩
  go_wp2_with fail
  go_ret
  exact ⟨rfl, HK.out.drewN _⟩

set_option maxHeartbeats 1000000 in
theorem net_impl (A : Option Addr) (n c : Nat) (bs : List Int) (B : Option Addr) (m d : Nat) (rs : List Int) (cents round : Int) (w : World)
    (h : Sl w A n (valsI bs)) (h2 : Sl w B m (valsI rs)) (hv : Asked bs rs cents round) :
    Calls Try.prog 86 #[.agg #[.slice A n c, .slice B m d], .int .i64 cents, .int .i64 round] w fun e w' => e = .returned (.int .i64 (netV bs rs cents round)) ∧ Kp [] w w' := by
  obtain ⟨x0, x1, d0, d1⟩ := due_bd hv
  have HW := Lib.hid ((Kp.refl w).alloc (.cells #[.slice A n c, .slice B m d] 27))
  have HE := Lib.hid (due_impl A n c bs B m d rs cents round (w.alloc (.cells #[.slice A n c, .slice B m d] 27)) (h.kp HW.out) (h2.kp HW.out) hv)
  obtain ⟨hv0, hc, hr⟩ := hv
  obtain ⟨c0, c1⟩ := inB_iff.1 hc
  clear h h2 hv0 hc hr
  go_enter Try.func86, Try.ntmps86
  go_wp2_with fail
  refine HE.out.mono ?_
  rintro e w1 ⟨rfl, hk⟩
  have HK := Lib.hid (HW.out.tr hk)
  clear hk
  go_wp2_with fail
  go_ret
  exact ⟨rfl, HK.out⟩

/-! ### DueOf -/

open Classical in
/-- What DueOf hands back. -/
noncomputable def dueRes (bs rs : List Int) (cents round : Int) : Int × Bool := if Asked bs rs cents round then (dueV bs rs cents round, true) else (0, false)
theorem dueRes_yes {bs rs : List Int} {cents round : Int} (h : Asked bs rs cents round) : dueRes bs rs cents round = (dueV bs rs cents round, true) := by unfold dueRes; rw [if_pos h]
theorem dueRes_no {bs rs : List Int} {cents round : Int} (h : ¬ Asked bs rs cents round) : dueRes bs rs cents round = (0, false) := by unfold dueRes; rw [if_neg h]

set_option maxHeartbeats 1000000 in
theorem dueOf_impl (A : Option Addr) (n c : Nat) (bs : List Int) (B : Option Addr) (m d : Nat) (rs : List Int) (cents round : Int) (w : World)
    (h : Sl w A n (valsI bs)) (h2 : Sl w B m (valsI rs)) (hn : n ≤ 1048576) (hm : m ≤ 1048576) :
    Calls Try.prog 43 #[.agg #[.slice A n c, .slice B m d], .int .i64 cents, .int .i64 round] w fun e w' => e = .returned (.tuple #[.int .i64 (dueRes bs rs cents round).1, .bool (dueRes bs rs cents round).2]) ∧ Kp [] w w' := by
  have HA := Lib.hid h
  have HB := Lib.hid h2
  clear h h2
  have HW := Lib.hid ((Kp.refl w).alloc (.cells #[.slice A n c, .slice B m d] 27))
  have hbx := Lib.hid (show w.heap.size < (w.alloc (.cells #[.slice A n c, .slice B m d] 27)).heap.size by simp)
  have hc0 : (w.alloc (.cells #[.slice A n c, .slice B m d] 27)).cell? ⟨w.heap.size, 0, none⟩ = some (.slice A n c) := by simp [go_sem]
  have hc1 : (w.alloc (.cells #[.slice A n c, .slice B m d] 27)).cell? ⟨w.heap.size, 1, none⟩ = some (.slice B m d) := by simp [go_sem]
  have C0 := Lib.hid hc0
  have C1 := Lib.hid hc1
  clear hc0 hc1
  go_enter Try.func43, Try.ntmps43
  go_wp2_with fail
  refine (ask_impl A n c bs B m d rs cents round _ (by exact HA.out.kp HW.out) (by exact HB.out.kp HW.out) hn hm).mono ?_
  rintro e w1 ⟨b1, rfl, hb1, hk⟩
  have c0 : w1.cell? ⟨w.heap.size, 0, none⟩ = some (.slice A n c) := (hk.cell (p := ⟨w.heap.size, 0, none⟩) hbx.out (by simp)).trans C0.out
  have c1 : w1.cell? ⟨w.heap.size, 1, none⟩ = some (.slice B m d) := (hk.cell (p := ⟨w.heap.size, 1, none⟩) hbx.out (by simp)).trans C1.out
  have HK := Lib.hid (HW.out.tr hk)
  have HB1 := Lib.hid hb1
  clear hb1 hk HW C0 C1 hbx
  cases b1
  · have HF := Lib.hid (show dueRes bs rs cents round = (0, false) from dueRes_no (fun hh => by have := HB1.out.2 hh; cases this))
    go_wp2_with fail
    go_ret2
    exact ⟨ret_ib HF.out rfl rfl, HK.out⟩
  · have HV := Lib.hid (HB1.out.1 rfl)
    have HF := Lib.hid (show dueRes bs rs cents round = _ from dueRes_yes HV.out)
    go_wp2_with fail
    refine (due_impl A n c bs B m d rs cents round _ (by exact HA.out.kp HK.out) (by exact HB.out.kp HK.out) HV.out).mono ?_
    rintro e w2 ⟨rfl, hk2⟩
    have HK2 := Lib.hid (HK.out.tr hk2)
    clear hk2
    go_wp2_with fail
    go_ret2
    exact ⟨ret_ib HF.out rfl rfl, HK2.out⟩

set_option maxHeartbeats 1000000 in
theorem dueOf_spec (A : Option Addr) (n c : Nat) (bs : List Int) (B : Option Addr) (m d : Nat) (rs : List Int) (cents round : Int) (w : World)
    (h : Sl w A n (valsI bs)) (h2 : Sl w B m (valsI rs)) (hn : n ≤ 1048576) (hm : m ≤ 1048576) :
    Calls Try.prog 42 #[.agg #[.slice A n c, .slice B m d], .int .i64 cents, .int .i64 round] w fun e w' => e = .returned (.tuple #[.int .i64 (dueRes bs rs cents round).1, .bool (dueRes bs rs cents round).2]) ∧ Kp [] w w' := by
  have HA := Lib.hid h
  have HB := Lib.hid h2
  clear h h2
  have HW := Lib.hid ((Kp.refl w).alloc (.cells #[.slice A n c, .slice B m d] 27))
  have hc0 : (w.alloc (.cells #[.slice A n c, .slice B m d] 27)).cell? ⟨w.heap.size, 0, none⟩ = some (.slice A n c) := by simp [go_sem]
  have hc1 : (w.alloc (.cells #[.slice A n c, .slice B m d] 27)).cell? ⟨w.heap.size, 1, none⟩ = some (.slice B m d) := by simp [go_sem]
  have C0 := Lib.hid hc0
  have C1 := Lib.hid hc1
  clear hc0 hc1
  go_enter Try.func42, Try.ntmps42
  go_wp2_with fail
  refine (can_spec A n c bs B m d rs _ cents round _ C0.out C1.out (by exact HA.out.kp HW.out) (by exact HB.out.kp HW.out) hn hm).mono ?_
  rintro e w1 ⟨b1, rfl, hb1, q, rfl⟩
  have HB1 := Lib.hid hb1
  clear hb1
  cases b1
  · have HF := Lib.hid (show dueRes bs rs cents round = (0, false) from dueRes_no (fun hh => by have := HB1.out.2 hh; cases this))
    go_wp2_with fail
    go_ret2
    exact ⟨ret_ib HF.out rfl rfl, HW.out.drewN _⟩
  · have HV := Lib.hid (HB1.out.1 rfl)
    have HF := Lib.hid (show dueRes bs rs cents round = _ from dueRes_yes HV.out)
    go_wp2_with fail
    refine (due_spec A n c bs B m d rs _ cents round _ (by exact C0.out) (by exact C1.out) (by exact HA.out.kp (HW.out.drewN _)) (by exact HB.out.kp (HW.out.drewN _)) HV.out).mono ?_
    rintro e w' ⟨rfl, q2, rfl⟩
    go_wp2_with fail
    go_ret2
    exact ⟨ret_ib HF.out rfl rfl, HW.out.drewN _⟩

/-! ### NetOf -/

open Classical in
/-- What NetOf hands back. -/
noncomputable def netRes (bs rs : List Int) (cents round : Int) : Int × Bool := if Asked bs rs cents round then (netV bs rs cents round, true) else (0, false)
theorem netRes_yes {bs rs : List Int} {cents round : Int} (h : Asked bs rs cents round) : netRes bs rs cents round = (netV bs rs cents round, true) := by unfold netRes; rw [if_pos h]
theorem netRes_no {bs rs : List Int} {cents round : Int} (h : ¬ Asked bs rs cents round) : netRes bs rs cents round = (0, false) := by unfold netRes; rw [if_neg h]

set_option maxHeartbeats 1000000 in
theorem netOf_impl (A : Option Addr) (n c : Nat) (bs : List Int) (B : Option Addr) (m d : Nat) (rs : List Int) (cents round : Int) (w : World)
    (h : Sl w A n (valsI bs)) (h2 : Sl w B m (valsI rs)) (hn : n ≤ 1048576) (hm : m ≤ 1048576) :
    Calls Try.prog 45 #[.agg #[.slice A n c, .slice B m d], .int .i64 cents, .int .i64 round] w fun e w' => e = .returned (.tuple #[.int .i64 (netRes bs rs cents round).1, .bool (netRes bs rs cents round).2]) ∧ Kp [] w w' := by
  have HA := Lib.hid h
  have HB := Lib.hid h2
  clear h h2
  have HW := Lib.hid ((Kp.refl w).alloc (.cells #[.slice A n c, .slice B m d] 27))
  have hbx := Lib.hid (show w.heap.size < (w.alloc (.cells #[.slice A n c, .slice B m d] 27)).heap.size by simp)
  have hc0 : (w.alloc (.cells #[.slice A n c, .slice B m d] 27)).cell? ⟨w.heap.size, 0, none⟩ = some (.slice A n c) := by simp [go_sem]
  have hc1 : (w.alloc (.cells #[.slice A n c, .slice B m d] 27)).cell? ⟨w.heap.size, 1, none⟩ = some (.slice B m d) := by simp [go_sem]
  have C0 := Lib.hid hc0
  have C1 := Lib.hid hc1
  clear hc0 hc1
  go_enter Try.func45, Try.ntmps45
  go_wp2_with fail
  refine (ask_impl A n c bs B m d rs cents round _ (by exact HA.out.kp HW.out) (by exact HB.out.kp HW.out) hn hm).mono ?_
  rintro e w1 ⟨b1, rfl, hb1, hk⟩
  have c0 : w1.cell? ⟨w.heap.size, 0, none⟩ = some (.slice A n c) := (hk.cell (p := ⟨w.heap.size, 0, none⟩) hbx.out (by simp)).trans C0.out
  have c1 : w1.cell? ⟨w.heap.size, 1, none⟩ = some (.slice B m d) := (hk.cell (p := ⟨w.heap.size, 1, none⟩) hbx.out (by simp)).trans C1.out
  have HK := Lib.hid (HW.out.tr hk)
  have HB1 := Lib.hid hb1
  clear hb1 hk HW C0 C1 hbx
  cases b1
  · have HF := Lib.hid (show netRes bs rs cents round = (0, false) from netRes_no (fun hh => by have := HB1.out.2 hh; cases this))
    go_wp2_with fail
    go_ret2
    exact ⟨ret_ib HF.out rfl rfl, HK.out⟩
  · have HV := Lib.hid (HB1.out.1 rfl)
    have HF := Lib.hid (show netRes bs rs cents round = _ from netRes_yes HV.out)
    go_wp2_with fail
    refine (net_impl A n c bs B m d rs cents round _ (by exact HA.out.kp HK.out) (by exact HB.out.kp HK.out) HV.out).mono ?_
    rintro e w2 ⟨rfl, hk2⟩
    have HK2 := Lib.hid (HK.out.tr hk2)
    clear hk2
    go_wp2_with fail
    go_ret2
    exact ⟨ret_ib HF.out rfl rfl, HK2.out⟩

set_option maxHeartbeats 1000000 in
theorem netOf_spec (A : Option Addr) (n c : Nat) (bs : List Int) (B : Option Addr) (m d : Nat) (rs : List Int) (cents round : Int) (w : World)
    (h : Sl w A n (valsI bs)) (h2 : Sl w B m (valsI rs)) (hn : n ≤ 1048576) (hm : m ≤ 1048576) :
    Calls Try.prog 44 #[.agg #[.slice A n c, .slice B m d], .int .i64 cents, .int .i64 round] w fun e w' => e = .returned (.tuple #[.int .i64 (netRes bs rs cents round).1, .bool (netRes bs rs cents round).2]) ∧ Kp [] w w' := by
  have HA := Lib.hid h
  have HB := Lib.hid h2
  clear h h2
  have HW := Lib.hid ((Kp.refl w).alloc (.cells #[.slice A n c, .slice B m d] 27))
  have hc0 : (w.alloc (.cells #[.slice A n c, .slice B m d] 27)).cell? ⟨w.heap.size, 0, none⟩ = some (.slice A n c) := by simp [go_sem]
  have hc1 : (w.alloc (.cells #[.slice A n c, .slice B m d] 27)).cell? ⟨w.heap.size, 1, none⟩ = some (.slice B m d) := by simp [go_sem]
  have C0 := Lib.hid hc0
  have C1 := Lib.hid hc1
  clear hc0 hc1
  go_enter Try.func44, Try.ntmps44
  go_wp2_with fail
  refine (can_spec A n c bs B m d rs _ cents round _ C0.out C1.out (by exact HA.out.kp HW.out) (by exact HB.out.kp HW.out) hn hm).mono ?_
  rintro e w1 ⟨b1, rfl, hb1, q, rfl⟩
  have HB1 := Lib.hid hb1
  clear hb1
  cases b1
  · have HF := Lib.hid (show netRes bs rs cents round = (0, false) from netRes_no (fun hh => by have := HB1.out.2 hh; cases this))
    go_wp2_with fail
    go_ret2
    exact ⟨ret_ib HF.out rfl rfl, HW.out.drewN _⟩
  · have HV := Lib.hid (HB1.out.1 rfl)
    have HF := Lib.hid (show netRes bs rs cents round = _ from netRes_yes HV.out)
    go_wp2_with fail
    refine (net_spec A n c bs B m d rs _ cents round _ (by exact C0.out) (by exact C1.out) (by exact HA.out.kp (HW.out.drewN _)) (by exact HB.out.kp (HW.out.drewN _)) HV.out).mono ?_
    rintro e w' ⟨rfl, q2, rfl⟩
    go_wp2_with fail
    go_ret2
    exact ⟨ret_ib HF.out rfl rfl, HW.out.drewN _⟩
end Go.Proofs.Ytloffnamjgnkhaa
