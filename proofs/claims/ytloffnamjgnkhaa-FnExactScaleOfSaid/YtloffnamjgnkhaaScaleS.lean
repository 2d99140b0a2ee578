/-
  The reference's ScaleOf. Conditions: the slices read as lists that are not too long.
-/
import Derived.Test.YtloffnamjgnkhaaScaleV
import Derived.Deep.QuietTactic
import Derived.BigQuiet
namespace Go.Proofs.Ytloffnamjgnkhaa
open Go.RowKit Mem Flo
open Go.Proofs.Ytloffnamjgnkhaa.Inv
set_option linter.unusedSimpArgs false
set_option linter.unusedVariables false

set_option maxRecDepth 100000 in
set_option maxHeartbeats 4000000 in
theorem sof_spec (A : Option Addr) (n c : Nat) (bs : List Int) (B : Option Addr) (m d : Nat) (us : List Int) (top : Int) (w : World) (h : Sl w A n (valsI bs)) (h2 : Sl w B m (valsI us)) (hn : n ≤ 1048576) (hm : m ≤ 1048576) :
    Calls Try.prog 31 #[.slice A n c, .slice B m d, .int .i64 top] w (SPost (whenP (SfOk bs us top) bs) (whenP (SfOk bs us top) (slps bs us bs.length ++ [top])) (okb (SfOk bs us top)) w) := by
  have HA := Lib.hid h
  have HB := Lib.hid h2
  have HL := Lib.hid (show bs.length = n by rw [← valsI_len, HA.out.len])
  have HM := Lib.hid (show us.length = m by rw [← valsI_len, HB.out.len])
  clear h h2
  have R0 := Lib.hid (Fx.new w 27 (.slice none 0 0) (.slice none 0 0))
  have K0 := Lib.hid ((Kp.refl w).alloc (.cells #[.slice none 0 0, .slice none 0 0] 27))
  go_enter Try.func31, Try.ntmps31
  by_cases h1 : (n : Int) < 1
  · have HN : Hid (¬ SfOk bs us top) := Lib.hid (fun hh => by have h5 := hh.l1; rw [HL.out] at h5; omega)
    have r0 := R0.out.c0
    have r1 := R0.out.c1
    have f0 := R0.out.f 0
    have f1 := R0.out.f 1
    go_wp2_with fail
    refine bodyPost_ret (v := .tuple #[.agg #[.slice none 0 0, .slice none 0 0], .bool false]) ?_ rfl (SPost.no HN.out ?_)
    · simp [results, Try.results31, go_sem, *]
    · first | exact K0.out | exact (K0.out.setNew _ (by omega) _ _).setNew _ (by omega) _ _
  by_cases h8 : (8 : Int) < (n : Int)
  · have HN : Hid (¬ SfOk bs us top) := Lib.hid (fun hh => by have h5 := hh.l8; rw [HL.out] at h5; omega)
    have r0 := R0.out.c0
    have r1 := R0.out.c1
    have f0 := R0.out.f 0
    have f1 := R0.out.f 1
    go_wp2_with fail
    refine bodyPost_ret (v := .tuple #[.agg #[.slice none 0 0, .slice none 0 0], .bool false]) ?_ rfl (SPost.no HN.out ?_)
    · simp [results, Try.results31, go_sem, *]
    · first | exact K0.out | exact (K0.out.setNew _ (by omega) _ _).setNew _ (by omega) _ _
  by_cases hmn : m = n
  rotate_left
  · have hne : ((m : Int) == (n : Int)) = false := by rw [beq_eq_false_iff_ne]; omega
    have hne2 : ((m : Int) != (n : Int)) = true := by rw [bne_iff_ne]; omega
    have HMN := Lib.hid hmn
    clear hmn
    have HN : Hid (¬ SfOk bs us top) := Lib.hid (fun hh => by have := hh.la; rw [HL.out, HM.out] at this; exact HMN.out this)
    have r0 := R0.out.c0
    have r1 := R0.out.c1
    have f0 := R0.out.f 0
    have f1 := R0.out.f 1
    go_wp2_with fail
    refine bodyPost_ret (v := .tuple #[.agg #[.slice none 0 0, .slice none 0 0], .bool false]) ?_ rfl (SPost.no HN.out ?_)
    · simp [results, Try.results31, go_sem, *]
    · first | exact K0.out | exact (K0.out.setNew _ (by omega) _ _).setNew _ (by omega) _ _
  subst hmn
  have hn1 : 1 ≤ m := by omega
  have hn8 : m ≤ 8 := by omega
  obtain ⟨b2, off2, z, eB, hb2, HZ, hcz⟩ := slI_at HB.out (show 0 < m by omega)
  rw [Nat.add_zero] at hcz
  replace hcz := (K0.out.cell (p := ⟨b2, off2, none⟩) hb2 (by simp)).trans hcz
  subst eB
  by_cases hz : z = 0
  rotate_left
  · have hz1 : (z == 0) = false := beq_eq_false_iff_ne.2 hz
    have hz2 : (z != 0) = true := bne_iff_ne.2 hz
    have HZN := Lib.hid hz
    clear hz
    have HN : Hid (¬ SfOk bs us top) := Lib.hid (fun hh => by have := hh.z; rw [getD_of HZ] at this; exact HZN.out this)
    have r0 := R0.out.c0
    have r1 := R0.out.c1
    have f0 := R0.out.f 0
    have f1 := R0.out.f 1
    go_wp2_with fail
    refine bodyPost_ret (v := .tuple #[.agg #[.slice none 0 0, .slice none 0 0], .bool false]) ?_ rfl (SPost.no HN.out ?_)
    · simp [results, Try.results31, go_sem, *]
    · first | exact K0.out | exact (K0.out.setNew _ (by omega) _ _).setNew _ (by omega) _ _
  subst hz
  have HZ0 := Lib.hid (getD_of HZ)
  clear HZ
  go_wp2_with fail
  clear hcz
  cases hT : inB top 0 10000
  · refine (rate_is hT _).mono ?_
    rintro e w9 ⟨rfl, rfl⟩
    have HN : Hid (¬ SfOk bs us top) := Lib.hid (fun hh => by have h5 := hh.ok.r (bs.length - 1) (by have := hh.l1; omega); rw [show (slps bs us bs.length ++ [top]).getD (bs.length - 1) 0 = top from slps_top _ _ _, ← inB_iff, hT] at h5; cases h5)
    have r0 := R0.out.c0
    have r1 := R0.out.c1
    have f0 := R0.out.f 0
    have f1 := R0.out.f 1
    go_wp2_with fail
    refine bodyPost_ret (v := .tuple #[.agg #[.slice none 0 0, .slice none 0 0], .bool false]) ?_ rfl (SPost.no HN.out ?_)
    · simp [results, Try.results31, go_sem, *]
    · first | exact K0.out | exact (K0.out.setNew _ (by omega) _ _).setNew _ (by omega) _ _
  refine (rate_is hT _).mono ?_
  rintro e w9 ⟨rfl, rfl⟩
  have HO0 := own_empty (H := w.heap.size + 1) (w.alloc (.cells #[.slice none 0 0, .slice none 0 0] 27)) (by simp)
  obtain ⟨g, c1, w1, hr, hk1, hat, ho⟩ := run_cp (c := c) HO0 (by simp) (HA.out.kp (K0.out.alloc (.cells #[] 2))) (show 0 < m by omega) hm
  obtain ⟨b, off, eA, hb, _⟩ := HA.out.2 (show 0 < m by omega)
  subst eA
  have K1 := Lib.hid ((K0.out.alloc (.cells #[] 2)).later hk1 (by simp [Value.ownBlock]))
  have R1 := Lib.hid ((R0.out.kp ((Kp.refl _).alloc (.cells #[] 2))).keep hk1 (by simp [Value.ownBlock]))
  have hlt1 : w.heap.size < w1.heap.size := R1.out.lt
  have hS0 : SfS w w.heap.size (w1.alloc (.cells #[.slice (some ⟨g, 0, none⟩) m c1, .slice none 0 0] 27)) w1.heap.size (some ⟨g, 0, none⟩) m c1 none (slps bs us 1).length 0 bs (slps bs us 1) :=
    ⟨K1.out.alloc _, Nat.le_refl _, R1.out.kp ((Kp.refl _).alloc _), Fx.new _ _ _ _, ⟨ho.kp0 ((Kp.refl _).alloc _), Own.nil _ _, by intro a b h1 h2; cases h2⟩, fun hh => by
      have hg : w1.heap.size = g := by simpa [bl] using hh
      have := (ho.lt g rfl).2
      omega, by omega⟩
  have S0 := Lib.hid hS0
  clear hk1 hat ho HO0 hS0 K1 R1 K0 R0
  rw [show (w.alloc (.cells #[.slice none 0 0, .slice none 0 0] 27)).heap.size = w.heap.size + 1 by simp] at hr
  generalize hA1 : (some ⟨g, 0, none⟩ : Option Addr) = A1 at *
  generalize hp : w1.heap.size = p at *
  go_wp2_with (at_builtin; refine wpList_appE (by rfl) _ _ 22 (by rfl) (by exact hr) ?_)
  clear hr
  go_wp2_with fail
  go_loopw [10] (fun i wr => ∃ (k : Nat), k ≤ m ∧ i = .int .i64 k ∧ Hid (SfS w w.heap.size wr p A1 m c1 none (slps bs us 1).length 0 bs (slps bs us 1)) ∧ Hid (Sfk bs us k)) (fun i _ => m - (intOf i).toNat)
  case atStart => exact ⟨0, Nat.zero_le _, rfl, S0, Lib.hid Sfk.zero⟩
  case round =>
    obtain ⟨k, hk, rfl, HS, HE⟩ := hrel
    by_cases hlt : k < m
    · obtain ⟨b4, off4, x, eA, _, HX, hcx⟩ := slI_at HA.out hlt
      obtain ⟨b3, off3, u, eB, _, HU, hcu⟩ := slI_at HB.out hlt
      injection eB with eB
      injection eB with e1 e2
      subst e1 e2
      injection eA with eA
      injection eA with e1 e2
      subst e1 e2
      replace hcx := (HS.out.k.cell (p := ⟨b, off + k, none⟩) hb (by simp)).trans hcx
      replace hcu := (HS.out.k.cell (p := ⟨b2, off2 + k, none⟩) hb2 (by simp)).trans hcu
      have HKL := Lib.hid (show k < bs.length by rw [HL.out]; exact hlt)
      have HKM := Lib.hid (show k < us.length by rw [HM.out]; exact hlt)
      have r0 := HS.out.res.c0
      have r1 := HS.out.res.c1
      have f0 := HS.out.res.f 0
      have f1 := HS.out.res.f 1
      cases hc : inB x 0 1000000000000
      · have HN : Hid (¬ SfOk bs us top) := Lib.hid (fun hh => by have := hh.c k HKL.out; rw [getD_of HX, ← inB_iff, hc] at this; cases this)
        go_wp2_with fail
        go_quiet ((go_at_call 63; exact Calls.quiet_of_same (cents_is hc _)))
        go_wp2_with fail
        refine bodyPost_ret (v := .tuple #[.agg #[.slice none 0 0, .slice none 0 0], .bool false]) ?_ rfl (HS.out.refuse HN.out (Kp.of_draw nq))
        simp [results, Try.results31, go_sem, *]
      cases hd : inB u 0 1000000000000
      · have HN : Hid (¬ SfOk bs us top) := Lib.hid (fun hh => by have := hh.d k HKM.out; rw [getD_of HU, ← inB_iff, hd] at this; cases this)
        go_wp2_with fail
        go_quiet ((first | (go_at_call 63; exact Calls.quiet_of_same (cents_is hc _)) | (go_at_call 63; exact Calls.quiet_of_same (cents_is hd _))))
        go_wp2_with fail
        refine bodyPost_ret (v := .tuple #[.agg #[.slice none 0 0, .slice none 0 0], .bool false]) ?_ rfl (HS.out.refuse HN.out (Kp.of_draw nq))
        simp [results, Try.results31, go_sem, *]
      by_cases hk0 : 0 < k
      · have hd0 : decide ((0 : Int) < (k : Int)) = true := decide_eq_true (by omega)
        obtain ⟨b', off', y, eA', _, HY, hcy⟩ := slI_at HA.out (k := k - 1) (by omega)
        injection eA' with eA'
        injection eA' with e1 e2
        subst e1 e2
        replace hcy := (HS.out.k.cell (p := ⟨b, off + (k - 1), none⟩) hb (by simp)).trans hcy
        have i0 : (0 : Int) ≤ (k : Int) - 1 := by omega
        have i1 : (k : Int) - 1 < (m : Int) := by omega
        by_cases hy : y < x
        · have hd2 : decide (x ≤ y) = false := decide_eq_false (by omega)
          have HE2 := Lib.hid (HE.out.succ (x := x) (u := u) HX HU hc hd (fun _ y' hy' => by have h3 := HY.out; rw [hy'.out] at h3; injection h3 with h3; omega))
          go_wp2_with fail
          go_quiet ((first | (go_at_call 63; exact Calls.quiet_of_same (cents_is hc _)) | (go_at_call 63; exact Calls.quiet_of_same (cents_is hd _))))
          have R3 := Lib.hid (HS.out.kp (Kp.of_draw nq))
          go_wp2_with fail
          go_roundw
          case rel => exact ⟨k + 1, by omega, by go_num, R3, HE2⟩
          case measure => simp [intOf]; omega
        · have hd2 : decide (x ≤ y) = true := decide_eq_true (by omega)
          have HYN := Lib.hid hy
          have HN : Hid (¬ SfOk bs us top) := Lib.hid (fun hh => by have h5 := hh.a (k - 1) (by have := HKL.out; omega); rw [getD_of HY, show k - 1 + 1 = k by omega, getD_of HX] at h5; exact HYN.out h5)
          go_wp2_with fail
          go_quiet ((first | (go_at_call 63; exact Calls.quiet_of_same (cents_is hc _)) | (go_at_call 63; exact Calls.quiet_of_same (cents_is hd _))))
          go_wp2_with fail
          refine bodyPost_ret (v := .tuple #[.agg #[.slice none 0 0, .slice none 0 0], .bool false]) ?_ rfl (HS.out.refuse HN.out (Kp.of_draw nq))
          simp [results, Try.results31, go_sem, *]
      · obtain rfl : k = 0 := by omega
        rw [Nat.add_zero] at hcx hcu
        have HE2 := Lib.hid (HE.out.succ (x := x) (u := u) HX HU hc hd (fun h0 => absurd h0 (by omega)))
        go_wp2_with fail
        go_quiet ((first | (go_at_call 63; exact Calls.quiet_of_same (cents_is hc _)) | (go_at_call 63; exact Calls.quiet_of_same (cents_is hd _))))
        have R3 := Lib.hid (HS.out.kp (Kp.of_draw nq))
        go_wp2_with fail
        go_roundw
        case rel => exact ⟨0 + 1, by omega, by go_num, R3, HE2⟩
        case measure => simp [intOf]; omega
    · obtain rfl : m = k := by omega
      have HC := Lib.hid (show ∀ i, i < bs.length → 0 ≤ bs.getD i 0 ∧ bs.getD i 0 ≤ 1000000000000 by rw [HL.out]; exact HE.out.c)
      have HO := Lib.hid (show ∀ i, i < us.length → 0 ≤ us.getD i 0 ∧ us.getD i 0 ≤ 1000000000000 by rw [HM.out]; exact HE.out.d)
      have HAs := Lib.hid (show Asck bs m from HE.out.a)
      clear HE
      have S0 := HS
      clear HS
      go_wp2_with fail
      go_loopw [11] (fun i wr => ∃ (k : Nat) (B1 : Option Addr) (k2 : Nat), 1 ≤ k ∧ k ≤ m ∧ i = .int .i64 k ∧ Hid (SfS w w.heap.size wr p A1 m c1 B1 (slps bs us k).length k2 bs (slps bs us k)) ∧ Hid (∀ i, 1 ≤ i → i < k → whole bs us i)) (fun i _ => m - (intOf i).toNat)
      case atStart => exact ⟨1, none, 0, Nat.le_refl _, hn1, rfl, S0, Lib.hid (fun i h1 h2 => absurd h2 (by omega))⟩
      case round =>
        obtain ⟨k, B1, k2, h1k, hk, rfl, HS, HW⟩ := hrel
        have lb := HS.out.acc.lt
        have hlm : (slps bs us k).length ≤ 1048576 := by have := slps_len bs us k; omega
        by_cases hlt : k < m
        · obtain ⟨b4, off4, x, eA, _, HX, hcx⟩ := slI_at HA.out hlt
          obtain ⟨b', off', y, eA', _, HY, hcy⟩ := slI_at HA.out (k := k - 1) (by omega)
          obtain ⟨b3, off3, u, eB, _, HU, hcu⟩ := slI_at HB.out hlt
          obtain ⟨b2', off2', v, eB', _, HV, hcv⟩ := slI_at HB.out (k := k - 1) (by omega)
          injection eA with eA; injection eA with e1 e2; subst e1 e2
          injection eA' with eA'
          injection eA' with e1 e2
          subst e1 e2
          injection eB with eB
          injection eB with e1 e2
          subst e1 e2
          injection eB' with eB'
          injection eB' with e1 e2
          subst e1 e2
          replace hcx := (HS.out.k.cell (p := ⟨b, off + k, none⟩) hb (by simp)).trans hcx
          replace hcy := (HS.out.k.cell (p := ⟨b, off + (k - 1), none⟩) hb (by simp)).trans hcy
          replace hcu := (HS.out.k.cell (p := ⟨b2, off2 + k, none⟩) hb2 (by simp)).trans hcu
          replace hcv := (HS.out.k.cell (p := ⟨b2, off2 + (k - 1), none⟩) hb2 (by simp)).trans hcv
          have i0 : (0 : Int) ≤ (k : Int) - 1 := by omega
          have i1 : (k : Int) - 1 < (m : Int) := by omega
          obtain ⟨D, U, V, q1, q2, q3, q4, q5, q6, q7, HQ⟩ := sof_arith HC.out HO.out (by rw [HL.out]; exact HAs.out) h1k (by rw [HL.out]; exact hlt) (by rw [HM.out]; exact hlt) HX HY HU HV
          by_cases hM0 : V.tmod D = 0
          · have HW2 : Hid (∀ i, 1 ≤ i → i < k + 1 → whole bs us i) := Lib.hid (fun i h1 h2 => by
              by_cases e : i = k
              · subst e; exact HQ.out.2 hM0
              · exact HW.out i h1 (by omega))
            rw [hM0] at q6
            go_wp2_with fail
            go_quiet (fail)
            obtain ⟨wrA, hwrA⟩ : ∃ wrA, wr.drewN nq = wrA := ⟨_, rfl⟩
            rw [hwrA]
            replace HS := Lib.hid (hwrA ▸ HS.out.kp (Kp.of_draw nq))
            replace hcx : wrA.cell? ⟨b, off + k, none⟩ = some (.int .i64 x) := by rw [← hwrA]; exact hcx
            replace hcy : wrA.cell? ⟨b, off + (k - 1), none⟩ = some (.int .i64 y) := by rw [← hwrA]; exact hcy
            replace lb : p < wrA.heap.size := HS.out.acc.lt
            clear hwrA hcu hcv nq wr
            obtain ⟨wr, rfl⟩ : ∃ wr, wr = wrA := ⟨_, rfl⟩
            go_wp2_with fail
            go_quiet (fail)

            go_wp2_with fail
            obtain ⟨wr2, hwr2⟩ : ∃ wr2, wr.drewN nq = wr2 := ⟨_, rfl⟩
            rw [hwr2]
            have HS2 := Lib.hid (hwr2 ▸ HS.out.kp (Kp.of_draw nq))
            have hcx2 : wr2.cell? ⟨b, off + k, none⟩ = some (.int .i64 x) := by rw [← hwr2]; exact hcx
            have hcy2 : wr2.cell? ⟨b, off + (k - 1), none⟩ = some (.int .i64 y) := by rw [← hwr2]; exact hcy
            have fb := HS2.out.old hb
            have hb2' : b < wr2.heap.size := Nat.lt_of_lt_of_le hb HS2.out.k.size
            have hk0 : (0 : Int) ≤ (k : Int) := by omega
            have i2 : ¬ ((k : Int) < 1) := by omega
            have hk1 : (k : Int) < (m : Int) := by omega
            have wk : IntKind.i64.wrap ((k : Int) - 1) = (k : Int) - 1 := IntWalk.i64_in _ (by omega)
            clear hwr2 HS
            have sB := HS2.out.chb
            have hBd : w.heap.size + 1 ≤ wr2.heap.size := by have := HS2.out.acc.lt; have := HS2.out.pos; omega
            refine wp_region_tab (n := 136) (by kernel_rfl) (by kernel_rfl) rfl
              [(0, (.slice (some ⟨b, off, none⟩) m c)), (9, .pointer (some ⟨p, 0, none⟩)), (11, .int .i64 (k : Int)), (12, .int .i64 V), (109, .pointer (some ⟨p, 1, none⟩)), (110, (.slice B1 (slps bs us k).length k2)), (111, .int .i64 V), (112, (.slice (some ⟨b, off, none⟩) m c)), (113, .int .i64 (k : Int)), (114, .pointer (some ⟨b, off + k, none⟩)), (115, .int .i64 x), (116, (.slice (some ⟨b, off, none⟩) m c)), (117, .int .i64 (k : Int)), (118, .int .i64 ((k : Int) - 1)), (119, .pointer (some ⟨b, off + (k - 1), none⟩)), (120, .int .i64 y), (121, .int .i64 D), (122, .int .i64 (slp bs us k)), (125, .pointer (some ⟨p, 1, none⟩))]
              (fun done f w' => Ch2 wr2 p (w.heap.size + 1) A1 m c1 B1 (slps bs us k).length k2 bs (slps bs us k) 0 (slp bs us k) 27 false false false (done 14) (done 15) (done 17) undef undef (f 123) (f 124) w') ?_ (Ch2.start sB HS2.out.acc HS2.out.own) ?_ ?_
            · exact ⟨.inr rfl, .inr rfl, .inr rfl, .inr rfl, .inl rfl, .inl rfl, .inl rfl, .inl rfl, .inl rfl, .inl rfl, .inl rfl, .inl rfl, .inl rfl, .inl rfl, .inl rfl, .inl rfl, .inl rfl, .inl rfl, .inl rfl, trivial⟩
            · refine ⟨?_, ?_, ?_, ?_, ?_, ?_, ?_, ?_, ?_, ?_, ?_, ?_, ?_, ?_, ?_, ?_, ?_, ?_, trivial⟩
              · intro a w' done hc h0 hd hl hM
                have e1 : a.eval (.tmp 9) = _ := hl.1 _ rfl
                refine pureT (v := .pointer (some ⟨p, 1, none⟩)) (w := w') ?_ ⟨?_, ?_⟩
                · clear hl hM hd hc h0
                  simp only [execOp, e1]
                  go_simp
                · exact val1 fun u hu => Option.some.inj hu
                · exact hM
              · intro a w' done hc h0 hd hl hM
                have e1 : a.eval (.tmp 109) = _ := hl.1 _ rfl
                have na : done 15 = false := hc.not (j := 15) rfl h0 ⟨⟨1, .data⟩, by simp, rfl, rfl⟩
                have ns : done 17 = false := hc.not (j := 17) rfl na ⟨⟨15, .data⟩, by simp, rfl, rfl⟩
                have hc1 : w'.cell? ⟨p, 1, none⟩ = some (.slice B1 (slps bs us k).length k2) := by
                  have := hM.acc.c1
                  simpa [ns] using this
                refine pureT (v := (.slice B1 (slps bs us k).length k2)) (w := w') ?_ ⟨?_, ?_⟩
                · clear hl hM hd hc h0
                  simp only [execOp, e1]
                  go_simp
                · exact val1 fun u hu => Option.some.inj hu
                · exact hM
              · intro a w' done hc h0 hd hl hM
                have e1 : a.eval (.tmp 12) = _ := hl.1 _ rfl
                refine pureT (v := .int .i64 V) (w := w') ?_ ⟨?_, ?_⟩
                · clear hl hM hd hc h0
                  simp only [execOp, e1]
                  go_simp
                · exact val1 fun u hu => Option.some.inj hu
                · exact hM
              · intro a w' done hc h0 hd hl hM
                have e1 : a.eval (.tmp 0) = _ := hl.1 _ rfl
                refine pureT (v := (.slice (some ⟨b, off, none⟩) m c)) (w := w') ?_ ⟨?_, ?_⟩
                · clear hl hM hd hc h0
                  simp only [execOp, e1]
                  go_simp
                · exact val1 fun u hu => Option.some.inj hu
                · exact hM
              · intro a w' done hc h0 hd hl hM
                have e1 : a.eval (.tmp 11) = _ := hl.1 _ rfl
                refine pureT (v := .int .i64 (k : Int)) (w := w') ?_ ⟨?_, ?_⟩
                · clear hl hM hd hc h0
                  simp only [execOp, e1]
                  go_simp
                · exact val1 fun u hu => Option.some.inj hu
                · exact hM
              · intro a w' done hc h0 hd hl hM
                have e1 : a.eval (.tmp 112) = _ := hl.1 _ rfl
                have e2 : a.eval (.tmp 113) = _ := hl.2.1 _ rfl
                refine pureT (v := .pointer (some ⟨b, off + k, none⟩)) (w := w') ?_ ⟨?_, ?_⟩
                · clear hl hM hd hc h0
                  simp only [execOp, e1, e2]
                  go_simp
                · exact val1 fun u hu => Option.some.inj hu
                · exact hM
              · intro a w' done hc h0 hd hl hM
                have e1 : a.eval (.tmp 114) = _ := hl.1 _ rfl
                have hc1 : w'.cell? ⟨b, off + k, none⟩ = some (.int .i64 x) := (hM.k.cell (p := ⟨b, off + k, none⟩) hb2' fb).trans hcx2
                refine pureT (v := .int .i64 x) (w := w') ?_ ⟨?_, ?_⟩
                · clear hl hM hd hc h0
                  simp only [execOp, e1]
                  go_simp
                · exact val1 fun u hu => Option.some.inj hu
                · exact hM
              · intro a w' done hc h0 hd hl hM
                have e1 : a.eval (.tmp 0) = _ := hl.1 _ rfl
                refine pureT (v := (.slice (some ⟨b, off, none⟩) m c)) (w := w') ?_ ⟨?_, ?_⟩
                · clear hl hM hd hc h0
                  simp only [execOp, e1]
                  go_simp
                · exact val1 fun u hu => Option.some.inj hu
                · exact hM
              · intro a w' done hc h0 hd hl hM
                have e1 : a.eval (.tmp 11) = _ := hl.1 _ rfl
                refine pureT (v := .int .i64 (k : Int)) (w := w') ?_ ⟨?_, ?_⟩
                · clear hl hM hd hc h0
                  simp only [execOp, e1]
                  go_simp
                · exact val1 fun u hu => Option.some.inj hu
                · exact hM
              · intro a w' done hc h0 hd hl hM
                have e1 : a.eval (.tmp 117) = _ := hl.1 _ rfl
                refine pureT (v := .int .i64 ((k : Int) - 1)) (w := w') ?_ ⟨?_, ?_⟩
                · clear hl hM hd hc h0
                  simp only [execOp, e1]
                  go_simp
                · exact val1 fun u hu => Option.some.inj hu
                · exact hM
              · intro a w' done hc h0 hd hl hM
                have e1 : a.eval (.tmp 116) = _ := hl.1 _ rfl
                have e2 : a.eval (.tmp 118) = _ := hl.2.1 _ rfl
                refine pureT (v := .pointer (some ⟨b, off + (k - 1), none⟩)) (w := w') ?_ ⟨?_, ?_⟩
                · clear hl hM hd hc h0
                  simp only [execOp, e1, e2]
                  go_simp
                · exact val1 fun u hu => Option.some.inj hu
                · exact hM
              · intro a w' done hc h0 hd hl hM
                have e1 : a.eval (.tmp 119) = _ := hl.1 _ rfl
                have hc1 : w'.cell? ⟨b, off + (k - 1), none⟩ = some (.int .i64 y) := (hM.k.cell (p := ⟨b, off + (k - 1), none⟩) hb2' fb).trans hcy2
                refine pureT (v := .int .i64 y) (w := w') ?_ ⟨?_, ?_⟩
                · clear hl hM hd hc h0
                  simp only [execOp, e1]
                  go_simp
                · exact val1 fun u hu => Option.some.inj hu
                · exact hM
              · intro a w' done hc h0 hd hl hM
                have e1 : a.eval (.tmp 115) = _ := hl.1 _ rfl
                have e2 : a.eval (.tmp 120) = _ := hl.2.1 _ rfl
                refine pureT (v := .int .i64 D) (w := w') ?_ ⟨?_, ?_⟩
                · clear hl hM hd hc h0
                  simp only [execOp, e1, e2]
                  go_simp
                · exact val1 fun u hu => Option.some.inj hu
                · exact hM
              · intro a w' done hc h0 hd hl hM
                have e1 : a.eval (.tmp 111) = _ := hl.1 _ rfl
                have e2 : a.eval (.tmp 121) = _ := hl.2.1 _ rfl
                refine pureT (v := .int .i64 (slp bs us k)) (w := w') ?_ ⟨?_, ?_⟩
                · clear hl hM hd hc h0
                  simp only [execOp, e1, e2]
                  go_simp
                · exact val1 fun u hu => Option.some.inj hu
                · exact hM
              · intro a w' done hc h0 hd hl hM
                have e1 : a.eval (.tmp 122) = _ := hl.1 _ rfl
                have na : done 15 = false := hc.not (j := 15) rfl h0 ⟨⟨14, .data⟩, by simp, rfl, rfl⟩
                refine pureT (v := .slice (some ⟨w'.heap.size, 0, none⟩) 1 1) (w := w'.alloc (.cells #[.int .i64 (slp bs us k)] 2)) ?_ ⟨?_, ?_⟩
                · have e2 : a.tmps[122]?.getD undef = .int .i64 (slp bs us k) := by simpa [Act.eval] using e1
                  clear hl hM hd hc h0 e1
                  simp only [execOp]
                  go_simp
                · exact val1 fun u hu => (by have hn : none = some u := hu; cases hn)
                · simp only [na] at hM
                  have := hM.build2 2
                  simpa [upd, updF, na] using this
              · intro a w' done hc h0 hd hl hM
                have e1 : a.eval (.tmp 110) = _ := hl.1 _ rfl
                have nb : done 14 = true := hd ⟨14, .data⟩ (by simp) rfl
                have ns : done 17 = false := hc.not (j := 17) rfl h0 ⟨⟨15, .data⟩, by simp, rfl, rfl⟩
                simp only [nb, h0, ns] at hM
                obtain ⟨g, cap, w2, hr, h2⟩ := Ch2.app2 sB hM hBd hlm
                refine pureT (v := .slice (some ⟨g, 0, none⟩) ((slps bs us k).length + 1) cap) (w := w2) ?_ ⟨?_, ?_⟩
                · have e2 : a.eval (.tmp 123) = a.tmps.getD 123 undef := rfl
                  unfold execOp
                  simp only [resolve, invoke, builtin, Sem.run_bind, Sem.run_pure, Result.andThen_ok, List.map_toArray, List.map_cons, List.map_nil, e1, e2, hr]
                · exact val1 fun u hu => (by have hn : none = some u := hu; cases hn)
                · simpa [upd, updF, nb, ns] using h2
              · intro a w' done hc h0 hd hl hM
                have e1 : a.eval (.tmp 9) = _ := hl.1 _ rfl
                refine pureT (v := .pointer (some ⟨p, 1, none⟩)) (w := w') ?_ ⟨?_, ?_⟩
                · clear hl hM hd hc h0
                  simp only [execOp, e1]
                  go_simp
                · exact val1 fun u hu => Option.some.inj hu
                · exact hM
              · intro a w' done hc h0 hd hl hM
                have e1 : a.eval (.tmp 125) = _ := hl.1 _ rfl
                have na : done 15 = true := hd ⟨15, .data⟩ (by simp) rfl
                simp only [na] at hM
                obtain ⟨g, cap, ev, _, _⟩ := hM.r.new rfl
                have e2 : a.eval (.tmp 124) = _ := ev
                have hc1 := hM.acc.c1
                have hf1 := hM.acc.f 1
                refine skipT (w := w'.setCell ⟨p, 1, none⟩ (a.tmps.getD 124 undef)) ?_ ⟨val0, ?_⟩
                · rw [ev]
                  clear hl hM hd hc h0
                  simp only [execOp, e1, e2]
                  go_simp
                · have := Ch2.store2 sB hM
                  simpa [upd, updF, na] using this
            · intro f w3 done hd hM hv
              have n1 := hd 14 (by decide)
              have n2 := hd 15 (by decide)
              have n3 := hd 17 (by decide)
              simp only [n1, n2, n3] at hM
              obtain ⟨g3, cap3, ev, hst⟩ := HS2.out.step hM
              clear hM hv hd ev
              simp only [putAll, Act.put, List.setIfInBounds_toArray, List.set_cons_succ, List.set_cons_zero, Option.getD_some, Option.getD_none]
              have R3 := Lib.hid (show SfS w w.heap.size w3 p A1 m c1 (some ⟨g3, 0, none⟩) (slps bs us (k + 1)).length cap3 bs (slps bs us (k + 1)) by
                rw [slps_succ _ _ h1k, List.length_append]
                exact hst)
              clear hst
              go_wp2_with fail
              go_roundw
              case rel => exact ⟨k + 1, _, _, by omega, by omega, by go_num, R3, HW2⟩
              case measure => simp [intOf]; omega
          · have hM1 : (V.tmod D == 0) = false := beq_eq_false_iff_ne.2 hM0
            have hM2 : (V.tmod D != 0) = true := bne_iff_ne.2 hM0
            have HN : Hid (¬ SfOk bs us top) := Lib.hid (fun hh => hM0 (HQ.out.1 (hh.w k h1k (by rw [HL.out]; exact hlt))))
            go_wp2_with fail
            go_quiet (fail)
            obtain ⟨wrA, hwrA⟩ : ∃ wrA, wr.drewN nq = wrA := ⟨_, rfl⟩
            rw [hwrA]
            replace HS := Lib.hid (hwrA ▸ HS.out.kp (Kp.of_draw nq))
            replace hcx : wrA.cell? ⟨b, off + k, none⟩ = some (.int .i64 x) := by rw [← hwrA]; exact hcx
            replace hcy : wrA.cell? ⟨b, off + (k - 1), none⟩ = some (.int .i64 y) := by rw [← hwrA]; exact hcy
            replace lb : p < wrA.heap.size := HS.out.acc.lt
            clear hwrA hcu hcv nq wr
            obtain ⟨wr, rfl⟩ : ∃ wr, wr = wrA := ⟨_, rfl⟩
            go_wp2_with fail
            go_quiet (fail)

            have r0 := HS.out.res.c0
            have r1 := HS.out.res.c1
            have f0 := HS.out.res.f 0
            have f1 := HS.out.res.f 1
            go_wp2_with fail
            refine bodyPost_ret (v := .tuple #[.agg #[.slice none 0 0, .slice none 0 0], .bool false]) ?_ rfl (HS.out.refuse HN.out (Kp.of_draw nq))
            simp [results, Try.results31, go_sem, *]
        · obtain rfl : m = k := by omega
          obtain ⟨g3, cap3, w6, hr, hfx, hst⟩ := HS.out.put hlm top
          have S6 := Lib.hid hst
          have fx0 := hfx.c0
          have fx1 := hfx.c1
          have fx2 := hfx.f 0
          have fx3 := hfx.f 1
          have a1 := HS.out.acc.c1
          clear hst hfx
          go_wp2_with (at_builtin; refine wpList_appE (by rfl) _ _ 22 (by rfl) (by exact hr) ?_)
          go_wp2_with fail
          clear hr fx0 fx1 fx2 fx3 a1
          refine (give_spec A1 m c1 bs (some ⟨g3, 0, none⟩) ((slps bs us m).length + 1) cap3 (slps bs us m ++ [top]) _ (by exact S6.out.own.sl1) (by exact S6.out.own.sl2) hn (by have := slps_len bs us m; omega)).mono ?_
          rintro e w7 ⟨b, hb, hk7, rfl⟩
          have S7 := Lib.hid (S6.out.kp hk7)
          have HB7 := Lib.hid hb
          have r0 := S7.out.res.c0
          have r1 := S7.out.res.c1
          have f0 := S7.out.res.f 0
          have f1 := S7.out.res.f 1
          clear hb hk7 S6 HS
          cases b
          · have HN : Hid (¬ SfOk bs us top) := Lib.hid (fun hh => by have h5 := hh.ok; rw [HL.out] at h5; have : false = true := HB7.out.2 h5; cases this)
            go_wp2_with fail
            refine bodyPost_ret (v := .tuple #[.agg #[.slice none 0 0, .slice none 0 0], .bool false]) ?_ rfl (S7.out.refuse HN.out (Kp.refl _))
            simp [results, Try.results31, go_sem, *]
          · have HY : Hid (SfOk bs us top) := Lib.hid ⟨by rw [HL.out]; exact hn1, by rw [HL.out]; exact hn8, by rw [HL.out, HM.out], HZ0.out, HC.out, HO.out, by have := HAs.out; rw [← HL.out] at this; exact this, fun i h1 h2 => HW.out i h1 (by rw [← HL.out]; exact h2), by rw [HL.out]; exact HB7.out.1 rfl⟩
            go_wp2_with fail
            refine bodyPost_ret (v := .tuple #[.agg #[.slice A1 m c1, .slice (some ⟨g3, 0, none⟩) ((slps bs us m).length + 1) cap3], .bool true]) ?_ rfl ?_
            · simp [results, Try.results31, go_sem, *]
            · rw [HL.out]
              exact S7.out.done HY.out (Kp.refl _)
end Go.Proofs.Ytloffnamjgnkhaa
