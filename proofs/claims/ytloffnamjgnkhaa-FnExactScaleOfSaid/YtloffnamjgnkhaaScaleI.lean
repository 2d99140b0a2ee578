/-
  The program's ScaleOf. Conditions: the slices read as lists that are not too long.
-/
import Derived.Test.YtloffnamjgnkhaaScaleV
import Derived.Deep.QuietTactic
import Derived.BigQuiet
namespace Go.Proofs.Ytloffnamjgnkhaa
open Go.RowKit Mem Flo
open Go.Proofs.Ytloffnamjgnkhaa.Inv
set_option linter.unusedSimpArgs false
set_option linter.unusedVariables false

theorem asc_tell (A : Option Addr) (n c : Nat) (zs : List Int) (w : World) (h : Sl w A n (valsI zs)) (hn : n ≤ 1048576) (h1 : 1 ≤ n) :
    Calls Try.prog 61 #[.slice A n c] w (TellPost (Asck zs n) w) :=
  (asc_any A n c zs w h hn h1).mono fun _ _ ⟨b, he, hb, q, hq⟩ => ⟨b, he, hb, by rw [hq]; exact Kp.of_draw q⟩

set_option maxRecDepth 100000 in
set_option maxHeartbeats 4000000 in
theorem sof_impl (A : Option Addr) (n c : Nat) (bs : List Int) (B : Option Addr) (m d : Nat) (us : List Int) (top : Int) (w : World) (h : Sl w A n (valsI bs)) (h2 : Sl w B m (valsI us)) (hn : n ≤ 1048576) (hm : m ≤ 1048576) :
    Calls Try.prog 33 #[.slice A n c, .slice B m d, .int .i64 top] w (SPost (whenP (SfOk bs us top) bs) (whenP (SfOk bs us top) (slps bs us bs.length ++ [top])) (okb (SfOk bs us top)) w) := by
  have HA := Lib.hid h
  have HB := Lib.hid h2
  clear h h2
  have R0 := Lib.hid (Fx.new w 27 (.slice none 0 0) (.slice none 0 0))
  have K0 := Lib.hid ((Kp.refl w).alloc (.cells #[.slice none 0 0, .slice none 0 0] 27))
  go_enter Try.func33, Try.ntmps33
  go_wp2_with fail
  refine (count_any A n c bs 1 8 0 1000000000000 _ (by exact HA.out.kp K0.out) hn (by omega) (by omega)).mono ?_
  rintro e w1 ⟨rfl, hk1⟩
  have K1 := Lib.hid (K0.out.tr hk1)
  have R1 := Lib.hid (R0.out.kp hk1)
  clear hk1 K0 R0
  cases hC : cntB bs 1 8 0 1000000000000
  · have HN : Hid (¬ SfOk bs us top) := Lib.hid (fun hh => by have := cntB_iff.2 ⟨hh.l1, hh.l8, hh.c⟩; rw [hC] at this; cases this)
    have r0 := R1.out.c0
    have r1 := R1.out.c1
    have f0 := R1.out.f 0
    have f1 := R1.out.f 1
    go_wp2_with fail
    refine bodyPost_ret (v := .tuple #[.agg #[.slice none 0 0, .slice none 0 0], .bool false]) ?_ rfl (SPost.no HN.out ?_)
    · simp [results, Try.results33, go_sem, *]
    · first | exact K1.out | exact (K1.out.setNew _ (by omega) _ _).setNew _ (by omega) _ _
  have HC0 := Lib.hid (cntB_iff.1 hC)
  have HC := Lib.hid HC0.out.2.2
  clear hC
  go_wp2_with fail
  have HL := Lib.hid (show bs.length = n by rw [← valsI_len, HA.out.len])
  have HM := Lib.hid (show us.length = m by rw [← valsI_len, HB.out.len])
  have hn1 : 1 ≤ n := by have := HC0.out.1; have := HL.out; omega
  have hn8 : n ≤ 8 := by have := HC0.out.2.1; have := HL.out; omega
  refine (asc_tell A n c bs w1 (by exact HA.out.kp K1.out) hn hn1).mono ?_
  rintro e w2 ⟨b, rfl, hb, hk2⟩
  have K2 := Lib.hid (K1.out.tr hk2)
  have R2 := Lib.hid (R1.out.kp hk2)
  clear hk2 K1 R1
  cases b
  · have HNb := Lib.hid hb
    clear hb
    have HN : Hid (¬ SfOk bs us top) := Lib.hid (fun hh => by have : false = true := HNb.out.2 (by rw [← HL.out]; exact hh.a); cases this)
    have r0 := R2.out.c0
    have r1 := R2.out.c1
    have f0 := R2.out.f 0
    have f1 := R2.out.f 1
    go_wp2_with fail
    refine bodyPost_ret (v := .tuple #[.agg #[.slice none 0 0, .slice none 0 0], .bool false]) ?_ rfl (SPost.no HN.out ?_)
    · simp [results, Try.results33, go_sem, *]
    · first | exact K2.out | exact (K2.out.setNew _ (by omega) _ _).setNew _ (by omega) _ _
  have HAs := Lib.hid (hb.1 rfl)
  clear hb
  by_cases hmn : m = n
  rotate_left
  · have hne : ((m : Int) == (n : Int)) = false := by rw [beq_eq_false_iff_ne]; omega
    have hne2 : ((m : Int) != (n : Int)) = true := by rw [bne_iff_ne]; omega
    have HMN := Lib.hid hmn
    clear hmn
    have HN : Hid (¬ SfOk bs us top) := Lib.hid (fun hh => by have := hh.la; rw [HL.out, HM.out] at this; exact HMN.out this)
    have r0 := R2.out.c0
    have r1 := R2.out.c1
    have f0 := R2.out.f 0
    have f1 := R2.out.f 1
    go_wp2_with fail
    refine bodyPost_ret (v := .tuple #[.agg #[.slice none 0 0, .slice none 0 0], .bool false]) ?_ rfl (SPost.no HN.out ?_)
    · simp [results, Try.results33, go_sem, *]
    · first | exact K2.out | exact (K2.out.setNew _ (by omega) _ _).setNew _ (by omega) _ _
  subst hmn
  go_wp2_with fail
  refine (within_any B m d us 0 1000000000000 w2 (by exact HB.out.kp K2.out) hm).mono ?_
  rintro e w3 ⟨rfl, hk3⟩
  have K3 := Lib.hid (K2.out.tr hk3)
  have R3 := Lib.hid (R2.out.kp hk3)
  clear hk3 K2 R2
  cases hO : outB us 0 1000000000000
  rotate_left
  · have HN : Hid (¬ SfOk bs us top) := Lib.hid (fun hh => by have := outB_iff.2 hh.d; rw [hO] at this; cases this)
    have r0 := R3.out.c0
    have r1 := R3.out.c1
    have f0 := R3.out.f 0
    have f1 := R3.out.f 1
    go_wp2_with fail
    refine bodyPost_ret (v := .tuple #[.agg #[.slice none 0 0, .slice none 0 0], .bool false]) ?_ rfl (SPost.no HN.out ?_)
    · simp [results, Try.results33, go_sem, *]
    · first | exact K3.out | exact (K3.out.setNew _ (by omega) _ _).setNew _ (by omega) _ _
  have HO := Lib.hid (outB_iff.1 hO)
  clear hO
  obtain ⟨b2, off2, z, eB, hb2, HZ, hcz⟩ := slI_at HB.out (show 0 < m by omega)
  rw [Nat.add_zero] at hcz
  replace hcz := (K3.out.cell (p := ⟨b2, off2, none⟩) hb2 (by simp)).trans hcz
  subst eB
  by_cases hz : z = 0
  rotate_left
  · have hz1 : (z == 0) = false := beq_eq_false_iff_ne.2 hz
    have hz2 : (z != 0) = true := bne_iff_ne.2 hz
    have HZN := Lib.hid hz
    clear hz
    have HN : Hid (¬ SfOk bs us top) := Lib.hid (fun hh => by have := hh.z; rw [getD_of HZ] at this; exact HZN.out this)
    have r0 := R3.out.c0
    have r1 := R3.out.c1
    have f0 := R3.out.f 0
    have f1 := R3.out.f 1
    go_wp2_with fail
    refine bodyPost_ret (v := .tuple #[.agg #[.slice none 0 0, .slice none 0 0], .bool false]) ?_ rfl (SPost.no HN.out ?_)
    · simp [results, Try.results33, go_sem, *]
    · first | exact K3.out | exact (K3.out.setNew _ (by omega) _ _).setNew _ (by omega) _ _
  subst hz
  have HZ0 := Lib.hid (getD_of HZ)
  clear HZ
  go_wp2_with fail
  clear hcz
  refine (clone_any A m c bs w3 (by exact HA.out.kp K3.out) hn1 hn).mono ?_
  rintro e w4 ⟨g, c1, rfl, hk4, ho4⟩
  have hlt3 : w.heap.size < w3.heap.size := R3.out.lt
  have hlt4 : w3.heap.size ≤ w4.heap.size := hk4.size
  have hS0 : SfS w w.heap.size (w4.alloc (.cells #[.slice (some ⟨g, 0, none⟩) m c1, .slice none 0 0] 27)) w4.heap.size (some ⟨g, 0, none⟩) m c1 none (slps bs us 1).length 0 bs (slps bs us 1) :=
    ⟨(K3.out.tr hk4).alloc _, Nat.le_refl _, (R3.out.kp hk4).kp ((Kp.refl _).alloc _), Fx.new _ _ _ _, ⟨(ho4.kp0 ((Kp.refl _).alloc _)).mono (by omega), Own.nil _ _, by intro a b h1 h2; cases h2⟩, fun hh => by
      have hg : w4.heap.size = g := by simpa [bl] using hh
      have := (ho4.lt g rfl).2
      omega, by omega⟩
  have S0 := Lib.hid hS0
  clear hk4 ho4 hS0 R3 K3
  generalize hA1 : (some ⟨g, 0, none⟩ : Option Addr) = A1 at *
  generalize hp : w4.heap.size = p at *
  go_wp2_with fail
  go_loopw [10] (fun i wr => ∃ (k : Nat) (B1 : Option Addr) (k2 : Nat), 1 ≤ k ∧ k ≤ m ∧ i = .int .i64 k ∧ Hid (SfS w w.heap.size wr p A1 m c1 B1 (slps bs us k).length k2 bs (slps bs us k)) ∧ Hid (∀ i, 1 ≤ i → i < k → whole bs us i)) (fun i _ => m - (intOf i).toNat)
  case atStart => exact ⟨1, none, 0, Nat.le_refl _, hn1, rfl, S0, Lib.hid (fun i h1 h2 => absurd h2 (by omega))⟩
  case round =>
    obtain ⟨k, B1, k2, h1k, hk, rfl, HS, HW⟩ := hrel
    have lb := HS.out.acc.lt
    have hlm : (slps bs us k).length ≤ 1048576 := by have := slps_len bs us k; omega
    by_cases hlt : k < m
    · obtain ⟨b, off, x, eA, hb, HX, hcx⟩ := slI_at HA.out hlt
      obtain ⟨b', off', y, eA', _, HY, hcy⟩ := slI_at HA.out (k := k - 1) (by omega)
      obtain ⟨b3, off3, u, eB, _, HU, hcu⟩ := slI_at HB.out hlt
      obtain ⟨b2', off2', v, eB', _, HV, hcv⟩ := slI_at HB.out (k := k - 1) (by omega)
      subst eA
      injection eA' with eA'
      injection eA' with e1 e2
      subst e1 e2
      injection eB with eB
      injection eB with e1 e2
      subst e1 e2
      injection eB' with eB'
      injection eB' with e1 e2
      subst e1 e2
      replace hcx := (HS.out.k.cell (p := ⟨b, off + k, none⟩) hb (by simp)).trans hcx
      replace hcy := (HS.out.k.cell (p := ⟨b, off + (k - 1), none⟩) hb (by simp)).trans hcy
      replace hcu := (HS.out.k.cell (p := ⟨b2, off2 + k, none⟩) hb2 (by simp)).trans hcu
      replace hcv := (HS.out.k.cell (p := ⟨b2, off2 + (k - 1), none⟩) hb2 (by simp)).trans hcv
      have i0 : (0 : Int) ≤ (k : Int) - 1 := by omega
      have i1 : (k : Int) - 1 < (m : Int) := by omega
      obtain ⟨D, U, V, q1, q2, q3, q4, q5, q6, q7, HQ⟩ := sof_arith HC.out HO.out (by rw [HL.out]; exact HAs.out) h1k (by rw [HL.out]; exact hlt) (by rw [HM.out]; exact hlt) HX HY HU HV
      by_cases hM0 : V.tmod D = 0
      · have HW2 : Hid (∀ i, 1 ≤ i → i < k + 1 → whole bs us i) := Lib.hid (fun i h1 h2 => by
          by_cases e : i = k
          · subst e; exact HQ.out.2 hM0
          · exact HW.out i h1 (by omega))
        rw [hM0] at q6
        go_wp2_with fail
        go_quiet (fail)

        go_wp2_with fail
        obtain ⟨wr2, hwr2⟩ : ∃ wr2, wr.drewN nq = wr2 := ⟨_, rfl⟩
        rw [hwr2]
        have HS2 := Lib.hid (hwr2 ▸ HS.out.kp (Kp.of_draw nq))
        clear hwr2 HS
        have sB := HS2.out.chb
        have hBd : w.heap.size + 1 ≤ wr2.heap.size := by have := HS2.out.acc.lt; have := HS2.out.pos; omega
        refine wp_region_tab (n := 93) (by kernel_rfl) (by kernel_rfl) rfl
          [(9, .pointer (some ⟨p, 0, none⟩)), (11, .int .i64 V), (12, .int .i64 D), (75, .pointer (some ⟨p, 1, none⟩)), (76, (.slice B1 (slps bs us k).length k2)), (77, .int .i64 V), (78, .int .i64 D), (79, .int .i64 (slp bs us k)), (82, .pointer (some ⟨p, 1, none⟩))]
          (fun done f w' => Ch2 wr2 p (w.heap.size + 1) A1 m c1 B1 (slps bs us k).length k2 bs (slps bs us k) 0 (slp bs us k) 27 false false false (done 5) (done 6) (done 8) undef undef (f 80) (f 81) w') ?_ (Ch2.start sB HS2.out.acc HS2.out.own) ?_ ?_
        · exact ⟨.inr rfl, .inr rfl, .inr rfl, .inl rfl, .inl rfl, .inl rfl, .inl rfl, .inl rfl, .inl rfl, trivial⟩
        · refine ⟨?_, ?_, ?_, ?_, ?_, ?_, ?_, ?_, ?_, trivial⟩
          · intro a w' done hc h0 hd hl hM
            have e1 : a.eval (.tmp 9) = _ := hl.1 _ rfl
            refine pureT (v := .pointer (some ⟨p, 1, none⟩)) (w := w') ?_ ⟨?_, ?_⟩
            · clear hl hM hd hc h0
              simp only [execOp, e1]
              go_simp
            · exact val1 fun u hu => Option.some.inj hu
            · exact hM
          · intro a w' done hc h0 hd hl hM
            have e1 : a.eval (.tmp 75) = _ := hl.1 _ rfl
            have na : done 6 = false := hc.not (j := 6) rfl h0 ⟨⟨1, .data⟩, by simp, rfl, rfl⟩
            have ns : done 8 = false := hc.not (j := 8) rfl na ⟨⟨6, .data⟩, by simp, rfl, rfl⟩
            have hc1 : w'.cell? ⟨p, 1, none⟩ = some (.slice B1 (slps bs us k).length k2) := by
              have := hM.acc.c1
              simpa [ns] using this
            refine pureT (v := (.slice B1 (slps bs us k).length k2)) (w := w') ?_ ⟨?_, ?_⟩
            · clear hl hM hd hc h0
              simp only [execOp, e1]
              go_simp
            · exact val1 fun u hu => Option.some.inj hu
            · exact hM
          · intro a w' done hc h0 hd hl hM
            have e1 : a.eval (.tmp 11) = _ := hl.1 _ rfl
            refine pureT (v := .int .i64 V) (w := w') ?_ ⟨?_, ?_⟩
            · clear hl hM hd hc h0
              simp only [execOp, e1]
              go_simp
            · exact val1 fun u hu => Option.some.inj hu
            · exact hM
          · intro a w' done hc h0 hd hl hM
            have e1 : a.eval (.tmp 12) = _ := hl.1 _ rfl
            refine pureT (v := .int .i64 D) (w := w') ?_ ⟨?_, ?_⟩
            · clear hl hM hd hc h0
              simp only [execOp, e1]
              go_simp
            · exact val1 fun u hu => Option.some.inj hu
            · exact hM
          · intro a w' done hc h0 hd hl hM
            have e1 : a.eval (.tmp 77) = _ := hl.1 _ rfl
            have e2 : a.eval (.tmp 78) = _ := hl.2.1 _ rfl
            refine pureT (v := .int .i64 (slp bs us k)) (w := w') ?_ ⟨?_, ?_⟩
            · clear hl hM hd hc h0
              simp only [execOp, e1, e2]
              go_simp
            · exact val1 fun u hu => Option.some.inj hu
            · exact hM
          · intro a w' done hc h0 hd hl hM
            have e1 : a.eval (.tmp 79) = _ := hl.1 _ rfl
            have na : done 6 = false := hc.not (j := 6) rfl h0 ⟨⟨5, .data⟩, by simp, rfl, rfl⟩
            refine pureT (v := .slice (some ⟨w'.heap.size, 0, none⟩) 1 1) (w := w'.alloc (.cells #[.int .i64 (slp bs us k)] 2)) ?_ ⟨?_, ?_⟩
            · have e2 : a.tmps[79]?.getD undef = .int .i64 (slp bs us k) := by simpa [Act.eval] using e1
              clear hl hM hd hc h0 e1
              simp only [execOp]
              go_simp
            · exact val1 fun u hu => (by have hn : none = some u := hu; cases hn)
            · simp only [na] at hM
              have := hM.build2 2
              simpa [upd, updF, na] using this
          · intro a w' done hc h0 hd hl hM
            have e1 : a.eval (.tmp 76) = _ := hl.1 _ rfl
            have nb : done 5 = true := hd ⟨5, .data⟩ (by simp) rfl
            have ns : done 8 = false := hc.not (j := 8) rfl h0 ⟨⟨6, .data⟩, by simp, rfl, rfl⟩
            simp only [nb, h0, ns] at hM
            obtain ⟨g, cap, w2, hr, h2⟩ := Ch2.app2 sB hM hBd hlm
            refine pureT (v := .slice (some ⟨g, 0, none⟩) ((slps bs us k).length + 1) cap) (w := w2) ?_ ⟨?_, ?_⟩
            · have e2 : a.eval (.tmp 80) = a.tmps.getD 80 undef := rfl
              unfold execOp
              simp only [resolve, invoke, builtin, Sem.run_bind, Sem.run_pure, Result.andThen_ok, List.map_toArray, List.map_cons, List.map_nil, e1, e2, hr]
            · exact val1 fun u hu => (by have hn : none = some u := hu; cases hn)
            · simpa [upd, updF, nb, ns] using h2
          · intro a w' done hc h0 hd hl hM
            have e1 : a.eval (.tmp 9) = _ := hl.1 _ rfl
            refine pureT (v := .pointer (some ⟨p, 1, none⟩)) (w := w') ?_ ⟨?_, ?_⟩
            · clear hl hM hd hc h0
              simp only [execOp, e1]
              go_simp
            · exact val1 fun u hu => Option.some.inj hu
            · exact hM
          · intro a w' done hc h0 hd hl hM
            have e1 : a.eval (.tmp 82) = _ := hl.1 _ rfl
            have na : done 6 = true := hd ⟨6, .data⟩ (by simp) rfl
            simp only [na] at hM
            obtain ⟨g, cap, ev, _, _⟩ := hM.r.new rfl
            have e2 : a.eval (.tmp 81) = _ := ev
            have hc1 := hM.acc.c1
            have hf1 := hM.acc.f 1
            refine skipT (w := w'.setCell ⟨p, 1, none⟩ (a.tmps.getD 81 undef)) ?_ ⟨val0, ?_⟩
            · rw [ev]
              clear hl hM hd hc h0
              simp only [execOp, e1, e2]
              go_simp
            · have := Ch2.store2 sB hM
              simpa [upd, updF, na] using this
        · intro f w3 done hd hM hv
          have n1 := hd 5 (by decide)
          have n2 := hd 6 (by decide)
          have n3 := hd 8 (by decide)
          simp only [n1, n2, n3] at hM
          obtain ⟨g3, cap3, ev, hst⟩ := HS2.out.step hM
          clear hM hv hd ev
          simp only [putAll, Act.put, List.setIfInBounds_toArray, List.set_cons_succ, List.set_cons_zero, Option.getD_some, Option.getD_none]
          have R3 := Lib.hid (show SfS w w.heap.size w3 p A1 m c1 (some ⟨g3, 0, none⟩) (slps bs us (k + 1)).length cap3 bs (slps bs us (k + 1)) by
            rw [slps_succ _ _ h1k, List.length_append]
            exact hst)
          clear hst
          go_wp2_with fail
          go_roundw
          case rel => exact ⟨k + 1, _, _, by omega, by omega, by go_num, R3, HW2⟩
          case measure => simp [intOf]; omega
      · have hM1 : (V.tmod D == 0) = false := beq_eq_false_iff_ne.2 hM0
        have hM2 : (V.tmod D != 0) = true := bne_iff_ne.2 hM0
        have HN : Hid (¬ SfOk bs us top) := Lib.hid (fun hh => hM0 (HQ.out.1 (hh.w k h1k (by rw [HL.out]; exact hlt))))
        go_wp2_with fail
        go_quiet (fail)

        have r0 := HS.out.res.c0
        have r1 := HS.out.res.c1
        have f0 := HS.out.res.f 0
        have f1 := HS.out.res.f 1
        go_wp2_with fail
        refine bodyPost_ret (v := .tuple #[.agg #[.slice none 0 0, .slice none 0 0], .bool false]) ?_ rfl (HS.out.refuse HN.out (Kp.of_draw nq))
        simp [results, Try.results33, go_sem, *]
    · obtain rfl : m = k := by omega
      obtain ⟨g3, cap3, w6, hr, hfx, hst⟩ := HS.out.put hlm top
      have S6 := Lib.hid hst
      have fx0 := hfx.c0
      have fx1 := hfx.c1
      have fx2 := hfx.f 0
      have fx3 := hfx.f 1
      have a1 := HS.out.acc.c1
      clear hst hfx
      go_wp2_with (at_builtin; refine wpList_appE (by rfl) _ _ 22 (by rfl) (by exact hr) ?_)
      go_wp2_with fail
      clear hr fx0 fx1 fx2 fx3 a1
      refine (scale_impl A1 m c1 bs (some ⟨g3, 0, none⟩) ((slps bs us m).length + 1) cap3 (slps bs us m ++ [top]) _ (by exact S6.out.own.sl1) (by exact S6.out.own.sl2) hn (by have := slps_len bs us m; omega)).mono ?_
      rintro e w7 ⟨b, hb, hk7, rfl⟩
      have S7 := Lib.hid (S6.out.kp hk7)
      have HB7 := Lib.hid hb
      have r0 := S7.out.res.c0
      have r1 := S7.out.res.c1
      have f0 := S7.out.res.f 0
      have f1 := S7.out.res.f 1
      clear hb hk7 S6 HS
      cases b
      · have HN : Hid (¬ SfOk bs us top) := Lib.hid (fun hh => by have h5 := hh.ok; rw [HL.out] at h5; have : false = true := HB7.out.2 h5; cases this)
        go_wp2_with fail
        refine bodyPost_ret (v := .tuple #[.agg #[.slice none 0 0, .slice none 0 0], .bool false]) ?_ rfl (S7.out.refuse HN.out (Kp.refl _))
        simp [results, Try.results33, go_sem, *]
      · have HY : Hid (SfOk bs us top) := Lib.hid ⟨by rw [HL.out]; exact hn1, by rw [HL.out]; exact hn8, by rw [HL.out, HM.out], HZ0.out, HC.out, HO.out, by have := HAs.out; rw [← HL.out] at this; exact this, fun i h1 h2 => HW.out i h1 (by rw [← HL.out]; exact h2), by rw [HL.out]; exact HB7.out.1 rfl⟩
        go_wp2_with fail
        refine bodyPost_ret (v := .tuple #[.agg #[.slice A1 m c1, .slice (some ⟨g3, 0, none⟩) ((slps bs us m).length + 1) cap3], .bool true]) ?_ rfl ?_
        · simp [results, Try.results33, go_sem, *]
        · rw [HL.out]
          exact S7.out.done HY.out (Kp.refl _)
end Go.Proofs.Ytloffnamjgnkhaa
