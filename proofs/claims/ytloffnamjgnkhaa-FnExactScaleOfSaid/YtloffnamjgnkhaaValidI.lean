/-
  Is a scale valid: the program's function. Conditions: the slices read as lists that are not too long.
-/
import Derived.Test.YtloffnamjgnkhaaValid
namespace Go.Proofs.Ytloffnamjgnkhaa
open Go.RowKit Mem

theorem outB_iff {zs : List Int} {lo hi : Int} : outB zs lo hi = false ↔ ∀ i, i < zs.length → lo ≤ zs.getD i 0 ∧ zs.getD i 0 ≤ hi := by
  unfold outB
  rw [List.any_eq_false]
  constructor
  · intro h i hi'
    have := h zs[i] (List.getElem_mem hi')
    simp at this
    rw [inB_iff] at this
    simpa [List.getD, hi'] using this
  · intro h x hx
    obtain ⟨i, hi', rfl⟩ := List.getElem_of_mem hx
    have := h i hi'
    simp [List.getD, hi'] at this
    simp
    rw [inB_iff]
    exact this

theorem cntB_iff {zs : List Int} {a b : Nat} {lo hi : Int} : cntB zs a b lo hi = true ↔ a ≤ zs.length ∧ zs.length ≤ b ∧ ∀ i, i < zs.length → lo ≤ zs.getD i 0 ∧ zs.getD i 0 ≤ hi := by
  unfold cntB
  rw [Bool.and_eq_true, Bool.and_eq_true, decide_eq_true_iff, decide_eq_true_iff, Bool.not_eq_true', outB_iff]

/-- What a test hands back; what was there stands. -/
def TellPost (P : Prop) (w : World) (e : Ending) (w' : World) : Prop := ∃ b : Bool, e = .returned (.bool b) ∧ (b = true ↔ P) ∧ Kp [] w w'

theorem TellPost.yes {P : Prop} {w w' : World} (h : P) (hk : Kp [] w w') : TellPost P w (.returned (.bool true)) w' := ⟨_, rfl, ⟨fun _ => h, fun _ => rfl⟩, hk⟩
theorem TellPost.no {P : Prop} {w w' : World} (h : ¬ P) (hk : Kp [] w w') : TellPost P w (.returned (.bool false)) w' := ⟨_, rfl, ⟨fun hh => (by cases hh), fun hh => (h hh).elim⟩, hk⟩

set_option maxHeartbeats 1000000 in
theorem valid_impl (A : Option Addr) (n c : Nat) (bs : List Int) (B : Option Addr) (m d : Nat) (rs : List Int) (w : World)
    (h : Sl w A n (valsI bs)) (h2 : Sl w B m (valsI rs)) (hn : n ≤ 1048576) (hm : m ≤ 1048576) :
    Calls Try.prog 24 #[.agg #[.slice A n c, .slice B m d]] w (TellPost (OkS bs rs) w) := by
  have HA := Lib.hid h
  have HB := Lib.hid h2
  have HL := Lib.hid (show bs.length = n by rw [← valsI_len, h.len])
  have HL2 := Lib.hid (show rs.length = m by rw [← valsI_len, h2.len])
  clear h h2
  have HW := Lib.hid ((Kp.refl w).alloc (.cells #[.slice A n c, .slice B m d] 27))
  go_enter Try.func24, Try.ntmps24
  go_wp2_with fail
  refine (count_any A n c bs 1 8 0 1000000000000 _ (by exact HA.out.kp HW.out) hn (by omega) (by omega)).mono ?_
  cases hcnt : cntB bs 1 8 0 1000000000000
  · have HF := Lib.hid (show ¬ OkS bs rs from fun hh => by rw [← Bool.not_eq_true, cntB_iff] at hcnt; exact hcnt ⟨hh.l1, hh.l8, hh.c⟩)
    clear hcnt
    rintro e w1 ⟨rfl, hk⟩
    have HK := Lib.hid (HW.out.tr hk)
    clear hk
    go_wp2_with fail
    go_ret
    exact TellPost.no HF.out HK.out
  · rw [cntB_iff] at hcnt
    obtain ⟨n1, n8, ncr⟩ := hcnt
    have NCR := Lib.hid ncr
    rw [HL.out] at n1 n8
    clear ncr
    rintro e w1 ⟨rfl, hk⟩
    have c0 : w1.cell? ⟨w.heap.size, 0, none⟩ = some (.slice A n c) := (hk.cell (p := ⟨w.heap.size, 0, none⟩) (by simp) (by simp)).trans (by simp [go_sem])
    have c1 : w1.cell? ⟨w.heap.size, 1, none⟩ = some (.slice B m d) := (hk.cell (p := ⟨w.heap.size, 1, none⟩) (by simp) (by simp)).trans (by simp [go_sem])
    have HK := Lib.hid (HW.out.tr hk)
    clear hk HW
    obtain ⟨b, off, x, rfl, hb, HX, hcx⟩ := slI_at (HA.out.kp HK.out) (show 0 < n by omega)
    rw [Nat.add_zero] at hcx
    by_cases hx : x = 0
    · subst hx
      have HZ := Lib.hid (getD_of HX)
      go_wp2_with fail
      refine (asc_any (some ⟨b, off, none⟩) n c bs _ (by exact HA.out.kp HK.out) hn n1).mono ?_
      rintro e w2 ⟨b1, rfl, hb1, q, rfl⟩
      have HB1 := Lib.hid hb1
      clear hb1
      cases b1
      · have HF := Lib.hid (show ¬ OkS bs rs from fun hh => by have := HB1.out.2 (fun i hi => hh.a i (by rw [HL.out]; exact hi)); cases this)
        go_wp2_with fail
        go_ret
        exact TellPost.no HF.out (HK.out.drewN _)
      · have HASC := Lib.hid (HB1.out.1 rfl)
        by_cases hmn : m = n
        · subst hmn
          go_wp2_with fail
          refine (within_any B m d rs 0 10000 _ (by exact (HB.out.kp HK.out).drewN _) hm).mono ?_
          cases ho : outB rs 0 10000
          · have HF := Lib.hid (show OkS bs rs from ⟨by rw [HL.out]; exact n1, by rw [HL.out]; exact n8, by rw [HL.out, HL2.out], HZ.out, NCR.out, (fun i hi => HASC.out i (by rw [← HL.out]; exact hi)), (fun i hi => outB_iff.1 ho i (by rw [HL2.out, ← HL.out]; exact hi))⟩)
            rintro e w3 ⟨rfl, hk3⟩
            have HK3 := Lib.hid ((HK.out.drewN q).tr hk3)
            clear hk3
            go_wp2_with fail
            go_ret
            exact TellPost.yes HF.out HK3.out
          · have HF := Lib.hid (show ¬ OkS bs rs from fun hh => by
              have := outB_iff.2 (fun i hi => hh.r i (by rw [← hh.lr]; exact hi))
              rw [ho] at this; cases this)
            rintro e w3 ⟨rfl, hk3⟩
            have HK3 := Lib.hid ((HK.out.drewN q).tr hk3)
            clear hk3
            go_wp2_with fail
            go_ret
            exact TellPost.no HF.out HK3.out
        · have hne : ((m : Int) == (n : Int)) = false := by rw [beq_eq_false_iff_ne]; omega
          have hne2 : (m == n) = false := beq_eq_false_iff_ne.2 hmn
          have HF := Lib.hid (show ¬ OkS bs rs from fun hh => hmn (by rw [← HL.out, ← HL2.out, hh.lr]))
          clear hmn
          go_wp2_with fail
          go_ret
          exact TellPost.no HF.out (HK.out.drewN _)
    · have hx' : (x == 0) = false := beq_eq_false_iff_ne.2 hx
      have HF := Lib.hid (show ¬ OkS bs rs from fun hh => hx (by rw [← hh.z, getD_of HX]))
      clear hx
      go_wp2_with fail
      go_ret
      exact TellPost.no HF.out HK.out

set_option maxHeartbeats 400000 in
theorem valid_spec (A : Option Addr) (n c : Nat) (bs : List Int) (B : Option Addr) (m d : Nat) (rs : List Int) (w : World)
    (h : Sl w A n (valsI bs)) (h2 : Sl w B m (valsI rs)) (hn : n ≤ 1048576) (hm : m ≤ 1048576) :
    Calls Try.prog 23 #[.agg #[.slice A n c, .slice B m d]] w (TellPost (OkS bs rs) w) := by
  have HA := Lib.hid h
  have HB := Lib.hid h2
  clear h h2
  go_enter Try.func23, Try.ntmps23
  go_wp2_with fail
  refine (is_any A n c bs B m d rs _ _ (by simp [go_sem]) (by simp [go_sem]) (by exact HA.out.alloc _) (by exact HB.out.alloc _) hn hm).mono ?_
  rintro e w1 ⟨b1, rfl, hb1, q, rfl⟩
  have HB1 := Lib.hid hb1
  clear hb1
  go_wp2_with fail
  go_ret
  exact ⟨_, rfl, HB1.out, ((Kp.refl _).alloc _).drewN _⟩
end Go.Proofs.Ytloffnamjgnkhaa
