/-
  The reference's IndexScale. Conditions: the slices read as lists that are not too long.
-/
import Derived.Test.YtloffnamjgnkhaaLoopS
import Derived.Test.YtloffnamjgnkhaaIn
import Derived.Test.YtloffnamjgnkhaaRound
namespace Go.Proofs.Ytloffnamjgnkhaa
open Go.RowKit Mem Flo
open Go.Proofs.Ytloffnamjgnkhaa.Inv
set_option linter.unusedSimpArgs false

def indexV (a b x : Int) : Int := b * rnd (x * (10000 + a)) (10000 * b) 1

set_option maxRecDepth 100000 in
set_option maxHeartbeats 2000000 in
theorem index_spec (A : Option Addr) (n c : Nat) (bs : List Int) (B : Option Addr) (m d : Nat) (rs : List Int) (a : Int) (b : Int) (w : World) (h : Sl w A n (valsI bs)) (h2 : Sl w B m (valsI rs)) (hn : n ≤ 1048576) (hm : m ≤ 1048576) :
    Calls Try.prog 50 #[.agg #[.slice A n c, .slice B m d], .int .i64 a, .int .i64 b] w (SPost (whenP (OkS bs rs ∧ inB a (-5000) 10000 = true ∧ inB b 1 1000000 = true ∧ OkS (bs.map (indexV a b)) rs) (bs.map (indexV a b))) (whenP (OkS bs rs ∧ inB a (-5000) 10000 = true ∧ inB b 1 1000000 = true ∧ OkS (bs.map (indexV a b)) rs) rs) (okb (OkS bs rs ∧ inB a (-5000) 10000 = true ∧ inB b 1 1000000 = true ∧ OkS (bs.map (indexV a b)) rs)) w) := by
  have HA := Lib.hid h
  have HB := Lib.hid h2
  clear h h2
  have hF := (Fx.new w 27 (.slice A n c) (.slice B m d)).kp ((Kp.refl _).alloc (.cells #[.slice none 0 0, .slice none 0 0] 27))
  have hR : Fx ((w.alloc (.cells #[.slice A n c, .slice B m d] 27)).alloc (.cells #[.slice none 0 0, .slice none 0 0] 27)) (w.heap.size + 1) 27 (.slice none 0 0) (.slice none 0 0) := by simpa using Fx.new (w.alloc (.cells #[.slice A n c, .slice B m d] 27)) 27 (.slice none 0 0) (.slice none 0 0)
  have hk0 := ((Kp.refl w).alloc (.cells #[.slice A n c, .slice B m d] 27)).alloc (.cells #[.slice none 0 0, .slice none 0 0] 27)
  have F0 := Lib.hid hF
  have R0 := Lib.hid hR
  have K0 := Lib.hid hk0
  clear hF hR hk0
  go_enter Try.func50, Try.ntmps50
  go_wp2_with fail
  refine (is_tell A n c bs B m d rs w.heap.size _ F0.out.c0 F0.out.c1 (by exact HA.out.kp K0.out) (by exact HB.out.kp K0.out) hn hm).mono ?_
  rintro e w1 ⟨b0, rfl, hb, hk1⟩
  have K1 := Lib.hid (K0.out.tr hk1)
  have F1 := Lib.hid (F0.out.kp hk1)
  have R1 := Lib.hid (R0.out.kp hk1)
  clear hk1 F0 R0 K0
  have r0 := R1.out.c0
  have r1 := R1.out.c1
  have fr0 := R1.out.f 0
  have fr1 := R1.out.f 1
  have lR := R1.out.lt
  cases b0
  · have HN : Hid (¬ (OkS bs rs ∧ inB a (-5000) 10000 = true ∧ inB b 1 1000000 = true ∧ OkS (bs.map (indexV a b)) rs)) := Lib.hid (fun hh => by have := hb.2 hh.1; cases this)
    clear hb
    go_wp2_with fail
    refine bodyPost_ret (v := .tuple #[.agg #[.slice none 0 0, .slice none 0 0], .bool false]) ?_ rfl (SPost.no HN.out ((K1.out.setNew _ (by omega) _ _).setNew _ (by omega) _ _))
    simp [results, Try.results50, go_sem, *]
  · have HO := Lib.hid (hb.1 rfl)
    clear hb
    go_wp2_with fail
    refine (in_spec a (-5000) 10000 _).mono ?_
    rintro e w' ⟨rfl, rfl⟩
    cases hIa : inB a (-5000) 10000
    · have HN : Hid (¬ (OkS bs rs ∧ inB a (-5000) 10000 = true ∧ inB b 1 1000000 = true ∧ OkS (bs.map (indexV a b)) rs)) := Lib.hid (fun hh => by have := hh.2.1; rw [hIa] at this; cases this)
      clear hIa
      go_wp2_with fail
      refine bodyPost_ret (v := .tuple #[.agg #[.slice none 0 0, .slice none 0 0], .bool false]) ?_ rfl (SPost.no HN.out ((K1.out.setNew _ (by omega) _ _).setNew _ (by omega) _ _))
      simp [results, Try.results50, go_sem, *]
    have Ha := Lib.hid hIa
    have ha0 := (inB_iff.1 hIa).1
    have ha1 := (inB_iff.1 hIa).2
    clear hIa
    go_wp2_with fail
    refine (in_spec b 1 1000000 _).mono ?_
    rintro e w' ⟨rfl, rfl⟩
    cases hIb : inB b 1 1000000
    · have HN : Hid (¬ (OkS bs rs ∧ inB a (-5000) 10000 = true ∧ inB b 1 1000000 = true ∧ OkS (bs.map (indexV a b)) rs)) := Lib.hid (fun hh => by have := hh.2.2.1; rw [hIb] at this; cases this)
      clear hIb
      go_wp2_with fail
      refine bodyPost_ret (v := .tuple #[.agg #[.slice none 0 0, .slice none 0 0], .bool false]) ?_ rfl (SPost.no HN.out ((K1.out.setNew _ (by omega) _ _).setNew _ (by omega) _ _))
      simp [results, Try.results50, go_sem, *]
    have Hb := Lib.hid hIb
    have hb0 := (inB_iff.1 hIb).1
    have hb1 := (inB_iff.1 hIb).2
    clear hIb
    go_wp2_with fail
    have HL3 := Lib.hid (show bs.length = n by rw [← valsI_len, HA.out.len])
    have HL4 := Lib.hid (show rs.length = m by rw [← valsI_len, HB.out.len])
    have hn0 : 0 < n := by have := HO.out.l1; have := HL3.out; omega
    have HNM : Hid (m = n) := Lib.hid (by have := HO.out.lr; have := HL3.out; have := HL4.out; omega)
    have hm0 : 0 < m := by have := HNM.out; omega
    refine (own_spec A n c bs B m d rs w.heap.size _ F1.out.bx (by exact HA.out.kp K1.out) (by exact HB.out.kp K1.out) hn hm hn0 hm0).mono ?_
    rintro e w2 ⟨A2, c2, B2, d2, rfl, hk2, ho2⟩
    have hS : LpS w (w2.alloc (.cells #[.slice A2 n c2, .slice B2 m d2] 27)) w2.heap.size A2 n c2 B2 m d2 (mapK (indexV a b) bs 0) rs :=
      ⟨(K1.out.tr hk2).alloc _, (R1.out.kp hk2).kp ((Kp.refl _).alloc _), Fx.new _ _ _ _, (by rw [mapK_zero]; exact (ho2.kp0 ((Kp.refl _).alloc _)).mono (by omega)), fun hh => by have := (ho2.lt _ hh).2; omega⟩
    have S0 := Lib.hid hS
    have hL2 : w.heap.size + 2 ≤ w2.heap.size := by have := hk2.size; omega
    clear hk2 ho2 hS r0 r1 fr0 fr1 lR
    go_wp2_with fail
    go_loopw [9] (fun i wr => ∃ (k : Nat), k ≤ n ∧ i = .int .i64 k ∧ Hid (LpS w wr w2.heap.size A2 n c2 B2 m d2 (mapK (indexV a b) bs k) rs)) (fun i _ => n - (intOf i).toNat)
    case atStart => exact ⟨0, Nat.zero_le _, rfl, S0⟩
    case round =>
      obtain ⟨k, hk, rfl, HS⟩ := hrel
      have a0 := HS.out.box.c0
      by_cases hlt : k < n
      · obtain ⟨_, _, x, _, _, HX, _⟩ := slI_at HA.out (k := k) (by omega)
        obtain ⟨G, eG, lG0, lG, HCx, HFz, HSt⟩ := HS.out.own.o1.elem (j := k) (by omega) (mapK_at _ HX.out)
        have hxm : x ∈ bs := List.mem_of_getElem? HX.out
        have hxb := mem_bd (by have := HO.out.c; exact this) hxm
        have hx0 := hxb.1
        have hx1 := hxb.2
        have hkm : (k : Int) < (n : Int) := by omega
        have hk0 : (0 : Int) ≤ (k : Int) := by omega
        have q0 : (0 : Int) ≤ 10000 + a := by omega
        have p0 : 0 ≤ x * (10000 + a) := Int.mul_nonneg hx0 q0
        have p1 : x * (10000 + a) ≤ 1000000000000 * 20000 := Int.mul_le_mul hx1 (by omega) q0 (by omega)
        have gx : indexV a b x = b * rnd (x * (10000 + a)) (10000 * b) 1 := rfl
        obtain ⟨rv0, rv1⟩ := rnd_bd (x * (10000 + a)) (10000 * b) 1 p0 (by omega)
        have dq : (10000 * b) * (x * (10000 + a) / (10000 * b)) ≤ x * (10000 + a) := Int.mul_ediv_self_le (by omega)
        have bq : b * rnd (x * (10000 + a)) (10000 * b) 1 ≤ b * (x * (10000 + a) / (10000 * b) + 1) := Int.mul_le_mul_of_nonneg_left rv1 (by omega)
        have bp : 0 ≤ b * rnd (x * (10000 + a)) (10000 * b) 1 := Int.mul_nonneg (by omega) rv0
        have bb : b * rnd (x * (10000 + a)) (10000 * b) 1 ≤ 9000000000000000000 := by
          have dq' : 10000 * (b * (x * (10000 + a) / (10000 * b))) ≤ x * (10000 + a) := by rw [← Int.mul_assoc]; exact dq
          have bq' : b * rnd (x * (10000 + a)) (10000 * b) 1 ≤ b * (x * (10000 + a) / (10000 * b)) + b := (show ∀ z r : Int, r ≤ z + 1 → b * r ≤ b * z + b from fun z r h => by have := Int.mul_le_mul_of_nonneg_left h (show (0 : Int) ≤ b by omega); rwa [Int.mul_add, Int.mul_one] at this) _ _ rv1
          clear dq bq
          generalize b * (x * (10000 + a) / (10000 * b)) = z at dq' bq'
          omega
        have w0 : IntKind.i64.wrap (x * (10000 + a)) = x * (10000 + a) := IntWalk.i64_in _ (by omega)
        have w2' : IntKind.i64.wrap (10000 + a) = 10000 + a := IntWalk.i64_in _ (by omega)
        have w3' : IntKind.i64.wrap (10000 * b) = 10000 * b := IntWalk.i64_in _ (by omega)
        have w1' : IntKind.i64.wrap (b * rnd (x * (10000 + a)) (10000 * b) 1) = b * rnd (x * (10000 + a)) (10000 * b) 1 := IntWalk.i64_in _ (by omega)
        have lb := HS.out.box.lt
        have HB1 := HS.out.box.c0
        rw [eG] at HB1
        go_wp2_with fail
        clear a0
        refine wp_region_tab (n := 52) (by kernel_rfl) (by kernel_rfl) rfl
          [(8, .pointer (some ⟨w2.heap.size, 0, none⟩)), (9, .int .i64 (k : Int)), (1, .int .i64 a), (2, .int .i64 b), (31, .pointer (some ⟨w2.heap.size, 0, none⟩)), (32, (.slice (some ⟨G, 0, none⟩) n c2)), (33, .int .i64 (k : Int)), (34, .int .i64 b), (35, .pointer (some ⟨w2.heap.size, 0, none⟩)), (36, (.slice (some ⟨G, 0, none⟩) n c2)), (37, .int .i64 (k : Int)), (38, .pointer (some ⟨G, k, none⟩)), (39, .int .i64 x), (40, .int .i64 a), (41, .int .i64 (10000 + a)), (42, .int .i64 (x * (10000 + a))), (43, .int .i64 b), (44, .int .i64 (10000 * b)), (45, .int .i64 (rnd (x * (10000 + a)) (10000 * b) 1)), (46, .int .i64 (b * (rnd (x * (10000 + a)) (10000 * b) 1))), (47, .pointer (some ⟨G, k, none⟩))]
          (fun done f w' => StM wr.drew (done 17) ⟨G, k, none⟩ (.int .i64 (b * (rnd (x * (10000 + a)) (10000 * b) 1))) w') ?_ ⟨wr.drew, Kp.refl _, rfl⟩ ⟨?_, ?_, ?_, ?_, ?_, ?_, ?_, ?_, ?_, ?_, ?_, ?_, ?_, ?_, ?_, ?_, ?_, ?_, trivial⟩ ?_
        · exact ⟨.inr rfl, .inr rfl, .inr rfl, .inr rfl, .inl rfl, .inl rfl, .inl rfl, .inl rfl, .inl rfl, .inl rfl, .inl rfl, .inl rfl, .inl rfl, .inl rfl, .inl rfl, .inl rfl, .inl rfl, .inl rfl, .inl rfl, .inl rfl, .inl rfl, trivial⟩
        · intro a9 w' done hc h0 hd hl hM
          have e1 : a9.eval (.tmp 8) = _ := hl.1 _ rfl
          refine pureT (v := .pointer (some ⟨w2.heap.size, 0, none⟩)) (w := w') ?_ ⟨?_, ?_⟩
          · clear hl hM hd hc h0
            simp only [execOp, e1]
            go_simp
          · exact val1 fun u hu => Option.some.inj hu
          · exact hM
        · intro a9 w' done hc h0 hd hl hM
          have e1 : a9.eval (.tmp 31) = _ := hl.1 _ rfl
          have q0 : done 16 = false := hc.not (j := 16) rfl h0 ⟨⟨1, .data⟩, by simp, rfl, rfl⟩
          have q1 : done 17 = false := hc.not (j := 17) rfl q0 ⟨⟨16, .data⟩, by simp, rfl, rfl⟩
          have hKK : Kp [] wr.drew w' := by have := hM; simp only [q1] at this; exact this.no
          have hc1 : w'.cell? ⟨w2.heap.size, 0, none⟩ = some (.slice (some ⟨G, 0, none⟩) n c2) := (hKK.cell (p := ⟨w2.heap.size, 0, none⟩) lb (by simp)).trans HB1
          refine pureT (v := (.slice (some ⟨G, 0, none⟩) n c2)) (w := w') ?_ ⟨?_, ?_⟩
          · clear hl hM hd hc h0
            simp only [execOp, e1]
            go_simp
          · exact val1 fun u hu => Option.some.inj hu
          · exact hM
        · intro a9 w' done hc h0 hd hl hM
          have e1 : a9.eval (.tmp 9) = _ := hl.1 _ rfl
          refine pureT (v := .int .i64 (k : Int)) (w := w') ?_ ⟨?_, ?_⟩
          · clear hl hM hd hc h0
            simp only [execOp, e1]
            go_simp
          · exact val1 fun u hu => Option.some.inj hu
          · exact hM
        · intro a9 w' done hc h0 hd hl hM
          have e1 : a9.eval (.tmp 2) = _ := hl.1 _ rfl
          refine pureT (v := .int .i64 b) (w := w') ?_ ⟨?_, ?_⟩
          · clear hl hM hd hc h0
            simp only [execOp, e1]
            go_simp
          · exact val1 fun u hu => Option.some.inj hu
          · exact hM
        · intro a9 w' done hc h0 hd hl hM
          have e1 : a9.eval (.tmp 8) = _ := hl.1 _ rfl
          refine pureT (v := .pointer (some ⟨w2.heap.size, 0, none⟩)) (w := w') ?_ ⟨?_, ?_⟩
          · clear hl hM hd hc h0
            simp only [execOp, e1]
            go_simp
          · exact val1 fun u hu => Option.some.inj hu
          · exact hM
        · intro a9 w' done hc h0 hd hl hM
          have e1 : a9.eval (.tmp 35) = _ := hl.1 _ rfl
          have q0 : done 7 = false := hc.not (j := 7) rfl h0 ⟨⟨5, .data⟩, by simp, rfl, rfl⟩
          have q1 : done 8 = false := hc.not (j := 8) rfl q0 ⟨⟨7, .data⟩, by simp, rfl, rfl⟩
          have q2 : done 11 = false := hc.not (j := 11) rfl q1 ⟨⟨8, .data⟩, by simp, rfl, rfl⟩
          have q3 : done 14 = false := hc.not (j := 14) rfl q2 ⟨⟨11, .data⟩, by simp, rfl, rfl⟩
          have q4 : done 15 = false := hc.not (j := 15) rfl q3 ⟨⟨14, .data⟩, by simp, rfl, rfl⟩
          have q5 : done 17 = false := hc.not (j := 17) rfl q4 ⟨⟨15, .data⟩, by simp, rfl, rfl⟩
          have hKK : Kp [] wr.drew w' := by have := hM; simp only [q5] at this; exact this.no
          have hc1 : w'.cell? ⟨w2.heap.size, 0, none⟩ = some (.slice (some ⟨G, 0, none⟩) n c2) := (hKK.cell (p := ⟨w2.heap.size, 0, none⟩) lb (by simp)).trans HB1
          refine pureT (v := (.slice (some ⟨G, 0, none⟩) n c2)) (w := w') ?_ ⟨?_, ?_⟩
          · clear hl hM hd hc h0
            simp only [execOp, e1]
            go_simp
          · exact val1 fun u hu => Option.some.inj hu
          · exact hM
        · intro a9 w' done hc h0 hd hl hM
          have e1 : a9.eval (.tmp 9) = _ := hl.1 _ rfl
          refine pureT (v := .int .i64 (k : Int)) (w := w') ?_ ⟨?_, ?_⟩
          · clear hl hM hd hc h0
            simp only [execOp, e1]
            go_simp
          · exact val1 fun u hu => Option.some.inj hu
          · exact hM
        · intro a9 w' done hc h0 hd hl hM
          have e1 : a9.eval (.tmp 36) = _ := hl.1 _ rfl
          have e2 : a9.eval (.tmp 37) = _ := hl.2.1 _ rfl
          refine pureT (v := .pointer (some ⟨G, k, none⟩)) (w := w') ?_ ⟨?_, ?_⟩
          · clear hl hM hd hc h0
            simp only [execOp, e1, e2]
            go_simp
          · exact val1 fun u hu => Option.some.inj hu
          · exact hM
        · intro a9 w' done hc h0 hd hl hM
          have e1 : a9.eval (.tmp 38) = _ := hl.1 _ rfl
          have q0 : done 11 = false := hc.not (j := 11) rfl h0 ⟨⟨8, .data⟩, by simp, rfl, rfl⟩
          have q1 : done 14 = false := hc.not (j := 14) rfl q0 ⟨⟨11, .data⟩, by simp, rfl, rfl⟩
          have q2 : done 15 = false := hc.not (j := 15) rfl q1 ⟨⟨14, .data⟩, by simp, rfl, rfl⟩
          have q3 : done 17 = false := hc.not (j := 17) rfl q2 ⟨⟨15, .data⟩, by simp, rfl, rfl⟩
          have hKK : Kp [] wr.drew w' := by have := hM; simp only [q3] at this; exact this.no
          have hc1 : w'.cell? ⟨G, k, none⟩ = some (.int .i64 x) := (hKK.cell (p := ⟨G, k, none⟩) lG (by simp)).trans HCx
          refine pureT (v := .int .i64 x) (w := w') ?_ ⟨?_, ?_⟩
          · clear hl hM hd hc h0
            simp only [execOp, e1]
            go_simp
          · exact val1 fun u hu => Option.some.inj hu
          · exact hM
        · intro a9 w' done hc h0 hd hl hM
          have e1 : a9.eval (.tmp 1) = _ := hl.1 _ rfl
          refine pureT (v := .int .i64 a) (w := w') ?_ ⟨?_, ?_⟩
          · clear hl hM hd hc h0
            simp only [execOp, e1]
            go_simp
          · exact val1 fun u hu => Option.some.inj hu
          · exact hM
        · intro a9 w' done hc h0 hd hl hM
          have e1 : a9.eval (.tmp 40) = _ := hl.1 _ rfl
          refine pureT (v := .int .i64 (10000 + a)) (w := w') ?_ ⟨?_, ?_⟩
          · clear hl hM hd hc h0
            simp only [execOp, e1]
            go_simp
          · exact val1 fun u hu => Option.some.inj hu
          · exact hM
        · intro a9 w' done hc h0 hd hl hM
          have e1 : a9.eval (.tmp 39) = _ := hl.1 _ rfl
          have e2 : a9.eval (.tmp 41) = _ := hl.2.1 _ rfl
          refine pureT (v := .int .i64 (x * (10000 + a))) (w := w') ?_ ⟨?_, ?_⟩
          · clear hl hM hd hc h0
            simp only [execOp, e1, e2]
            go_simp
          · exact val1 fun u hu => Option.some.inj hu
          · exact hM
        · intro a9 w' done hc h0 hd hl hM
          have e1 : a9.eval (.tmp 2) = _ := hl.1 _ rfl
          refine pureT (v := .int .i64 b) (w := w') ?_ ⟨?_, ?_⟩
          · clear hl hM hd hc h0
            simp only [execOp, e1]
            go_simp
          · exact val1 fun u hu => Option.some.inj hu
          · exact hM
        · intro a9 w' done hc h0 hd hl hM
          have e1 : a9.eval (.tmp 43) = _ := hl.1 _ rfl
          refine pureT (v := .int .i64 (10000 * b)) (w := w') ?_ ⟨?_, ?_⟩
          · clear hl hM hd hc h0
            simp only [execOp, e1]
            go_simp
          · exact val1 fun u hu => Option.some.inj hu
          · exact hM
        · intro a9 w' done hc h0 hd hl hM
          have e1 : a9.eval (.tmp 42) = _ := hl.1 _ rfl
          have e2 : a9.eval (.tmp 44) = _ := hl.2.1 _ rfl
          have e3 : a9.tmps[42]?.getD undef = .int .i64 (x * (10000 + a)) := by simpa [Act.eval] using e1
          have e4 : a9.tmps[44]?.getD undef = .int .i64 (10000 * b) := by simpa [Act.eval] using e2
          refine callT (f := 91) (args := #[.int .i64 (x * (10000 + a)), .int .i64 (10000 * b), .int .i64 1]) (w := w') ?_ ?_
          · clear hl hM hd hc h0 e1 e2
            simp only [execOp]
            go_simp
          · refine (round_spec (x * (10000 + a)) (10000 * b) 1 p0 (by omega) (by omega) (by omega) (by omega) (by omega) w').mono ?_
            rintro e w'' ⟨rfl, rfl⟩
            exact ⟨_, rfl, ⟨(val1 fun u hu => Option.some.inj hu), hM⟩⟩
        · intro a9 w' done hc h0 hd hl hM
          have e1 : a9.eval (.tmp 34) = _ := hl.1 _ rfl
          have e2 : a9.eval (.tmp 45) = _ := hl.2.1 _ rfl
          refine pureT (v := .int .i64 (b * (rnd (x * (10000 + a)) (10000 * b) 1))) (w := w') ?_ ⟨?_, ?_⟩
          · clear hl hM hd hc h0
            simp only [execOp, e1, e2]
            go_simp
          · exact val1 fun u hu => Option.some.inj hu
          · exact hM
        · intro a9 w' done hc h0 hd hl hM
          have e1 : a9.eval (.tmp 32) = _ := hl.1 _ rfl
          have e2 : a9.eval (.tmp 33) = _ := hl.2.1 _ rfl
          refine pureT (v := .pointer (some ⟨G, k, none⟩)) (w := w') ?_ ⟨?_, ?_⟩
          · clear hl hM hd hc h0
            simp only [execOp, e1, e2]
            go_simp
          · exact val1 fun u hu => Option.some.inj hu
          · exact hM
        · intro a9 w' done hc h0 hd hl hM
          have e1 : a9.eval (.tmp 47) = _ := hl.1 _ rfl
          have e2 : a9.eval (.tmp 46) = _ := hl.2.1 _ rfl
          simp only [h0] at hM
          have hKK := hM.no
          have hc1 : w'.cell? ⟨G, k, none⟩ = some (.int .i64 x) := (hKK.cell (p := ⟨G, k, none⟩) lG (by simp)).trans HCx
          have hf1 : w'.frozen? ⟨G, k, none⟩ = false := (World.frozen?_of_block (a := ⟨G, k, none⟩) (hKK.block G lG (by simp))).trans HFz
          refine skipT (w := w'.setCell ⟨G, k, none⟩ (.int .i64 (b * (rnd (x * (10000 + a)) (10000 * b) 1)))) ?_ ⟨val0, ?_⟩
          · clear hl hM hd hc h0
            simp only [execOp, e1, e2]
            go_simp
          · exact ⟨w', hKK, by simp [upd]⟩
        · intro f w' done hd hM hv
          simp only [hd 17 (by decide)] at hM
          obtain ⟨wo, hko, hwo⟩ := hM
          simp only [if_true] at hwo
          subst hwo
          have S1 := HS.out.kp (((Kp.refl wr).drew).tr hko)
          obtain ⟨G2, eG2, _, _, _, _, HSt2⟩ := S1.own.o1.elem (j := k) (by omega) (mapK_at _ HX.out)
          obtain rfl : G = G2 := by rw [eG] at eG2; injection eG2 with eG2; injection eG2 with eG2
          have S2 := S1.set1 eG (HSt2 (b * (rnd (x * (10000 + a)) (10000 * b) 1)))
          rw [← gx, mapK_succ _ HX.out, gx] at S2
          have S3 := Lib.hid S2
          clear hv hd S1 S2 HSt2 HSt HCx HFz HB1 hko
          simp only [if_true, putAll, Act.put, List.setIfInBounds_toArray, List.set_cons_succ, List.set_cons_zero, Option.getD_some, Option.getD_none]
          go_wp2_with fail
          go_roundw
          case rel => exact ⟨k + 1, by omega, by go_num, S3⟩
          case measure => simp [intOf]; omega
      · obtain rfl : n = k := by omega
        have b0 := HS.out.box.c0
        have b1 := HS.out.box.c1
        have OO := Lib.hid (show Own2 (w.heap.size + 2) wr A2 n c2 B2 m d2 (bs.map (indexV a b)) rs by have := HS.out.own; rw [show n = bs.length from HL3.out.symm, mapK_all, HL3.out] at this; exact this)
        go_wp2_with fail
        refine (give_spec A2 n c2 (bs.map (indexV a b)) B2 m d2 rs _ OO.out.sl1 OO.out.sl2 hn hm).mono ?_
        rintro e w3 ⟨bv, hb, hk3, rfl⟩
        have K3 := Lib.hid (HS.out.k.tr hk3)
        have R3 := Lib.hid (HS.out.res.kp hk3)
        have O3 := Lib.hid (OO.out.kp0 hk3)
        have HV := Lib.hid hb
        clear hk3 hb b0 b1
        have r0 := R3.out.c0
        have r1 := R3.out.c1
        have fr0 := R3.out.f 0
        have fr1 := R3.out.f 1
        cases bv
        · have HN : Hid (¬ (OkS bs rs ∧ inB a (-5000) 10000 = true ∧ inB b 1 1000000 = true ∧ OkS (bs.map (indexV a b)) rs)) := Lib.hid (fun hh => by have := HV.out.2 hh.2.2.2; cases this)
          go_wp2_with fail
          refine bodyPost_ret (v := .tuple #[.agg #[.slice none 0 0, .slice none 0 0], .bool false]) ?_ rfl (SPost.no HN.out ((K3.out.setNew _ (by omega) _ _).setNew _ (by omega) _ _))
          simp [results, Try.results50, go_sem, *]
        · have HY : Hid (OkS bs rs ∧ inB a (-5000) 10000 = true ∧ inB b 1 1000000 = true ∧ OkS (bs.map (indexV a b)) rs) := Lib.hid ⟨HO.out, Ha.out, Hb.out, HV.out.1 rfl⟩
          go_wp2_with fail
          refine bodyPost_ret (v := .tuple #[.agg #[.slice A2 n c2, .slice B2 m d2], .bool true]) ?_ rfl ?_
          · simp [results, Try.results50, go_sem, *]
          · have hkk := ((Kp.refl w3).set (w.heap.size + 1) 0 (.slice A2 n c2)).set (w.heap.size + 1) 1 (.slice B2 m d2)
            exact SPost.yes HY.out ((K3.out.setNew _ (by omega) _ _).setNew _ (by omega) _ _) ((O3.out.kp hkk (by
              intro t ht hh
              have := (O3.out.lt t ht).1
              simp at hh
              omega)).mono (by omega))
end Go.Proofs.Ytloffnamjgnkhaa

