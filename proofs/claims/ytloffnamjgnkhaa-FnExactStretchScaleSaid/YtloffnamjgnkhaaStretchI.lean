/-
  The program's StretchScale. Conditions: the slices read as lists that are not too long.
-/
import Derived.Test.YtloffnamjgnkhaaMixR
import Derived.Test.YtloffnamjgnkhaaStretchS
import Derived.Deep.QuietTactic
import Derived.BigQuiet
namespace Go.Proofs.Ytloffnamjgnkhaa
open Go.RowKit Mem Flo
open Go.Proofs.Ytloffnamjgnkhaa.Inv
set_option linter.unusedSimpArgs false

set_option maxHeartbeats 1000000 in
theorem clos_stretch (x : Int) (a : Int) (b : Int) (p0 p1 : Nat) (w : World) (hx0 : 0 ≤ x) (hx1 : x ≤ 1000000000000) (ha0 : 1 ≤ a) (ha1 : a ≤ 1000) (hb0 : 1 ≤ b) (hb1 : b ≤ 1000) (hc0 : w.cell? ⟨p0, 0, none⟩ = some (.int .i64 a)) (hc1 : w.cell? ⟨p1, 0, none⟩ = some (.int .i64 b)) :
    Calls Try.prog 81 #[.int .i64 x, .pointer (some ⟨p0, 0, none⟩), .pointer (some ⟨p1, 0, none⟩)] w fun e w' => e = .returned (.int .i64 (stretchV a b x)) ∧ Kp [] w w' := by
  have p0 : 0 ≤ x * a := Int.mul_nonneg hx0 (by omega)
  have p1 : x * a ≤ 1000000000000 * 1000 := Int.mul_le_mul hx1 ha1 (by omega) (by omega)
  have bz : (b == 0) = false := by rw [beq_eq_false_iff_ne]; omega
  have bn : b ≠ 0 := by omega
  have dv0 : 0 ≤ x * a / b := Int.ediv_nonneg p0 (by omega)
  have dv1 : x * a / b ≤ x * a := Int.ediv_le_self _ p0
  have w0 : IntKind.i64.wrap (x * a) = x * a := IntWalk.i64_in _ (by omega)
  have w1' : IntKind.i64.wrap ((x * a).tdiv b) = x * a / b := by rw [Int.tdiv_eq_ediv_of_nonneg p0]; exact IntWalk.i64_in _ (by omega)
  go_enter Try.func81, Try.ntmps81
  go_wp2
  go_ret
  exact ⟨by simp [stretchV, *], Kp.refl _⟩

set_option maxRecDepth 100000 in
set_option maxHeartbeats 4000000 in
theorem stretch_impl (A : Option Addr) (n c : Nat) (bs : List Int) (B : Option Addr) (m d : Nat) (rs : List Int) (a : Int) (b : Int) (w : World) (h : Sl w A n (valsI bs)) (h2 : Sl w B m (valsI rs)) (hn : n ≤ 1048576) (hm : m ≤ 1048576) :
    Calls Try.prog 41 #[.agg #[.slice A n c, .slice B m d], .int .i64 a, .int .i64 b] w (SPost (whenP (OkS bs rs ∧ inB a 1 1000 = true ∧ inB b 1 1000 = true ∧ OkS (bs.map (stretchV a b)) rs) (bs.map (stretchV a b))) (whenP (OkS bs rs ∧ inB a 1 1000 = true ∧ inB b 1 1000 = true ∧ OkS (bs.map (stretchV a b)) rs) rs) (okb (OkS bs rs ∧ inB a 1 1000 = true ∧ inB b 1 1000 = true ∧ OkS (bs.map (stretchV a b)) rs)) w) := by
  have HA := Lib.hid h
  have HB := Lib.hid h2
  clear h h2
  have F0 : Hid (Fx ((((w.alloc (.cells #[.slice A n c, .slice B m d] 27)).alloc (.cells #[.int .i64 a] 2)).alloc (.cells #[.int .i64 b] 2)).alloc (.cells #[.slice none 0 0, .slice none 0 0] 27)) w.heap.size 27 (.slice A n c) (.slice B m d)) := Lib.hid ((Fx.new w 27 (.slice A n c) (.slice B m d)).kp ((((Kp.refl _).alloc _).alloc _).alloc _))
  have R0 : Hid (Fx ((((w.alloc (.cells #[.slice A n c, .slice B m d] 27)).alloc (.cells #[.int .i64 a] 2)).alloc (.cells #[.int .i64 b] 2)).alloc (.cells #[.slice none 0 0, .slice none 0 0] 27)) (w.heap.size + 3) 27 (.slice none 0 0) (.slice none 0 0)) := Lib.hid (by simpa using Fx.new (((w.alloc (.cells #[.slice A n c, .slice B m d] 27)).alloc (.cells #[.int .i64 a] 2)).alloc (.cells #[.int .i64 b] 2)) 27 (.slice none 0 0) (.slice none 0 0))
  have I0a : Hid (w.heap.size + 1 < ((((w.alloc (.cells #[.slice A n c, .slice B m d] 27)).alloc (.cells #[.int .i64 a] 2)).alloc (.cells #[.int .i64 b] 2)).alloc (.cells #[.slice none 0 0, .slice none 0 0] 27)).heap.size ∧ ((((w.alloc (.cells #[.slice A n c, .slice B m d] 27)).alloc (.cells #[.int .i64 a] 2)).alloc (.cells #[.int .i64 b] 2)).alloc (.cells #[.slice none 0 0, .slice none 0 0] 27)).cell? ⟨w.heap.size + 1, 0, none⟩ = some (.int .i64 a)) := Lib.hid ⟨by simp <;> omega, by simp [go_sem]⟩
  have I0b : Hid (w.heap.size + 2 < ((((w.alloc (.cells #[.slice A n c, .slice B m d] 27)).alloc (.cells #[.int .i64 a] 2)).alloc (.cells #[.int .i64 b] 2)).alloc (.cells #[.slice none 0 0, .slice none 0 0] 27)).heap.size ∧ ((((w.alloc (.cells #[.slice A n c, .slice B m d] 27)).alloc (.cells #[.int .i64 a] 2)).alloc (.cells #[.int .i64 b] 2)).alloc (.cells #[.slice none 0 0, .slice none 0 0] 27)).cell? ⟨w.heap.size + 2, 0, none⟩ = some (.int .i64 b)) := Lib.hid ⟨by simp <;> omega, by simp [go_sem]⟩
  have K0 : Hid (Kp [] w ((((w.alloc (.cells #[.slice A n c, .slice B m d] 27)).alloc (.cells #[.int .i64 a] 2)).alloc (.cells #[.int .i64 b] 2)).alloc (.cells #[.slice none 0 0, .slice none 0 0] 27))) := Lib.hid ((((((Kp.refl w).alloc _).alloc _).alloc _).alloc _))
  go_enter Try.func41, Try.ntmps41
  go_wp2_with fail
  refine (valid_impl A n c bs B m d rs _ (by exact HA.out.kp K0.out) (by exact HB.out.kp K0.out) hn hm).mono ?_
  rintro e w1 ⟨b0, rfl, hb, hk1⟩
  have K1 := Lib.hid (K0.out.tr hk1)
  have F1 := Lib.hid (F0.out.kp hk1)
  have R1 := Lib.hid (R0.out.kp hk1)
  have I1a : Hid (w.heap.size + 1 < w1.heap.size ∧ w1.cell? ⟨w.heap.size + 1, 0, none⟩ = some (.int .i64 a)) := Lib.hid ⟨Nat.lt_of_lt_of_le I0a.out.1 hk1.size, (hk1.cell (p := ⟨w.heap.size + 1, 0, none⟩) I0a.out.1 (by simp)).trans I0a.out.2⟩
  have i1a := I1a.out.2
  have I1b : Hid (w.heap.size + 2 < w1.heap.size ∧ w1.cell? ⟨w.heap.size + 2, 0, none⟩ = some (.int .i64 b)) := Lib.hid ⟨Nat.lt_of_lt_of_le I0b.out.1 hk1.size, (hk1.cell (p := ⟨w.heap.size + 2, 0, none⟩) I0b.out.1 (by simp)).trans I0b.out.2⟩
  have i1b := I1b.out.2
  clear hk1 F0 R0 K0 I0a I0b
  have r0 := R1.out.c0
  have r1 := R1.out.c1
  have fr0 := R1.out.f 0
  have fr1 := R1.out.f 1
  cases b0
  · have HN : Hid (¬ (OkS bs rs ∧ inB a 1 1000 = true ∧ inB b 1 1000 = true ∧ OkS (bs.map (stretchV a b)) rs)) := Lib.hid (fun hh => by have := hb.2 hh.1; cases this)
    clear hb
    go_wp2_with fail
    refine bodyPost_ret (v := .tuple #[.agg #[.slice none 0 0, .slice none 0 0], .bool false]) ?_ rfl (SPost.no HN.out ((K1.out.setNew _ (by omega) _ _).setNew _ (by omega) _ _))
    simp [results, Try.results41, go_sem, *]
  · have HO := Lib.hid (hb.1 rfl)
    clear hb
    go_wp2_with fail
    refine (in_impl a 1 1000 _).mono ?_
    rintro e w' ⟨rfl, rfl⟩
    cases hIa : inB a 1 1000
    · have HN : Hid (¬ (OkS bs rs ∧ inB a 1 1000 = true ∧ inB b 1 1000 = true ∧ OkS (bs.map (stretchV a b)) rs)) := Lib.hid (fun hh => by have := hh.2.1; rw [hIa] at this; cases this)
      clear hIa
      go_wp2_with fail
      refine bodyPost_ret (v := .tuple #[.agg #[.slice none 0 0, .slice none 0 0], .bool false]) ?_ rfl (SPost.no HN.out ((K1.out.setNew _ (by omega) _ _).setNew _ (by omega) _ _))
      simp [results, Try.results41, go_sem, *]
    have Ha := Lib.hid hIa
    have ha0 := (inB_iff.1 hIa).1
    have ha1 := (inB_iff.1 hIa).2
    clear hIa
    go_wp2_with fail
    refine (in_impl b 1 1000 _).mono ?_
    rintro e w' ⟨rfl, rfl⟩
    cases hIb : inB b 1 1000
    · have HN : Hid (¬ (OkS bs rs ∧ inB a 1 1000 = true ∧ inB b 1 1000 = true ∧ OkS (bs.map (stretchV a b)) rs)) := Lib.hid (fun hh => by have := hh.2.2.1; rw [hIb] at this; cases this)
      clear hIb
      go_wp2_with fail
      refine bodyPost_ret (v := .tuple #[.agg #[.slice none 0 0, .slice none 0 0], .bool false]) ?_ rfl (SPost.no HN.out ((K1.out.setNew _ (by omega) _ _).setNew _ (by omega) _ _))
      simp [results, Try.results41, go_sem, *]
    have Hb := Lib.hid hIb
    have hb0 := (inB_iff.1 hIb).1
    have hb1 := (inB_iff.1 hIb).2
    clear hIb
    go_wp2_with fail
    have HL3 := Lib.hid (show bs.length = n by rw [← valsI_len, HA.out.len])
    have HL4 := Lib.hid (show rs.length = m by rw [← valsI_len, HB.out.len])
    have hn0 : 0 < n := by have := HO.out.l1; have := HL3.out; omega
    have HNM : Hid (m = n) := Lib.hid (by have := HO.out.lr; have := HL3.out; have := HL4.out; omega)
    have hm0 : 0 < m := by have := HNM.out; omega
    have HBD : Hid (∀ x ∈ bs, 0 ≤ x ∧ x ≤ 1000000000000) := Lib.hid (fun x hx => mem_bd (by have := HO.out.c; exact this) hx)
    clear r0 r1 fr0 fr1 i1a i1b
    · refine wp_region_tab (n := 33) (by kernel_rfl) (by kernel_rfl) rfl
          [(3, .pointer (some ⟨w.heap.size, 0, none⟩)), (4, .pointer (some ⟨w.heap.size + 1, 0, none⟩)), (5, .pointer (some ⟨w.heap.size + 2, 0, none⟩)), (6, .pointer (some ⟨w.heap.size + 3, 0, none⟩)), (22, .pointer (some ⟨w.heap.size, 0, none⟩)), (23, (.slice A n c)), (24, .func (.func 81) #[] #[.pointer (some ⟨w.heap.size + 1, 0, none⟩), .pointer (some ⟨w.heap.size + 2, 0, none⟩)]), (26, .pointer (some ⟨w.heap.size, 1, none⟩)), (27, (.slice B m d)), (32, .bool (okb (OkS (bs.map (stretchV a b)) rs))), (7, .bool (okb (OkS (bs.map (stretchV a b)) rs)))]
          (fun done f w' => MxS w1 (w.heap.size + 3) n m (bs.map (stretchV a b)) rs 27 (okb (OkS (bs.map (stretchV a b)) rs)) (done 3) (done 6) (done 7) (done 8) (done 9) (done 11) (f 25) (f 28) (f 29) (f 30) (f 31) w') ?_ (MxS.start R1.out) ⟨?_, ?_, ?_, ?_, ?_, ?_, ?_, ?_, ?_, ?_, ?_, ?_, ?_, trivial⟩ ?_
      · exact ⟨.inr rfl, .inr rfl, .inr rfl, .inr rfl, .inl rfl, .inl rfl, .inl rfl, .inl rfl, .inl rfl, .inl rfl, .inl rfl, trivial⟩
      · intro a9 w' done hc h0 hd hl hM
        have e1 : a9.eval (.tmp 3) = _ := hl.1 _ rfl
        refine pureT (v := .pointer (some ⟨w.heap.size, 0, none⟩)) (w := w') ?_ ⟨?_, ?_⟩
        · clear hl hM hd hc h0
          simp only [execOp, e1]
          go_simp
        · exact val1 fun u hu => Option.some.inj hu
        · exact hM
      · intro a9 w' done hc h0 hd hl hM
        have e1 : a9.eval (.tmp 22) = _ := hl.1 _ rfl
        have hc1 : w'.cell? ⟨w.heap.size, 0, none⟩ = some (.slice A n c) := (hM.k.cell (p := ⟨w.heap.size, 0, none⟩) F1.out.lt (by simp)).trans F1.out.c0
        refine pureT (v := (.slice A n c)) (w := w') ?_ ⟨?_, ?_⟩
        · clear hl hM hd hc h0
          simp only [execOp, e1]
          go_simp
        · exact val1 fun u hu => Option.some.inj hu
        · exact hM
      · intro a9 w' done hc h0 hd hl hM
        have e1 : a9.eval (.tmp 4) = _ := hl.1 _ rfl
        have e2 : a9.eval (.tmp 5) = _ := hl.2.1 _ rfl
        refine pureT (v := .func (.func 81) #[] #[.pointer (some ⟨w.heap.size + 1, 0, none⟩), .pointer (some ⟨w.heap.size + 2, 0, none⟩)]) (w := w') ?_ ⟨?_, ?_⟩
        · have e3 : a9.tmps[4]?.getD undef = .pointer (some ⟨w.heap.size + 1, 0, none⟩) := by simpa [Act.eval] using e1
          have e4 : a9.tmps[5]?.getD undef = .pointer (some ⟨w.heap.size + 2, 0, none⟩) := by simpa [Act.eval] using e2
          clear hl hM hd hc h0 e1 e2
          simp only [execOp]
          go_simp
        · exact val1 fun u hu => Option.some.inj hu
        · exact hM
      · intro a9 w' done hc h0 hd hl hM
        have e1 : a9.eval (.tmp 23) = _ := hl.1 _ rfl
        have e2 : a9.eval (.tmp 24) = _ := hl.2.1 _ rfl
        have q7 : done 7 = false := hc.not (j := 7) rfl h0 ⟨⟨3, .data⟩, by simp, rfl, rfl⟩
        have q8 : done 8 = false := hc.not (j := 8) rfl q7 ⟨⟨7, .data⟩, by simp, rfl, rfl⟩
        have q9 : done 9 = false := hc.not (j := 9) rfl q8 ⟨⟨8, .data⟩, by simp, rfl, rfl⟩
        have q11 : done 11 = false := hc.not (j := 11) rfl q9 ⟨⟨9, .data⟩, by simp, rfl, rfl⟩
        simp only [h0, q7, q8, q9, q11] at hM
        have KK := Lib.hid (K1.out.later hM.k (by simp))
        refine callT (f := 79) (args := #[.slice A n c, .func (.func 81) #[] #[.pointer (some ⟨w.heap.size + 1, 0, none⟩), .pointer (some ⟨w.heap.size + 2, 0, none⟩)]]) (w := w') ?_ ?_
        · have e3 : a9.tmps[23]?.getD undef = .slice A n c := by simpa [Act.eval] using e1
          have e4 : a9.tmps[24]?.getD undef = .func (.func 81) #[] #[.pointer (some ⟨w.heap.size + 1, 0, none⟩), .pointer (some ⟨w.heap.size + 2, 0, none⟩)] := by simpa [Act.eval] using e2
          clear hl hM hd hc h0 e1 e2
          simp only [execOp]
          go_simp
        · refine (mapped_StretchScale (stretchV a b) A n c bs (w.heap.size + 1) (w.heap.size + 2) w' (by exact HA.out.kp KK.out) hn (fun x hx wr hkr => clos_stretch x a b (w.heap.size + 1) (w.heap.size + 2) wr (HBD.out x hx).1 (HBD.out x hx).2 ha0 ha1 hb0 hb1 ((hkr.cell (p := ⟨w.heap.size + 1, 0, none⟩) (Nat.lt_of_lt_of_le I1a.out.1 hM.k.size) (by simp)).trans ((hM.k.cell (p := ⟨w.heap.size + 1, 0, none⟩) I1a.out.1 (by simp)).trans I1a.out.2)) ((hkr.cell (p := ⟨w.heap.size + 2, 0, none⟩) (Nat.lt_of_lt_of_le I1b.out.1 hM.k.size) (by simp)).trans ((hM.k.cell (p := ⟨w.heap.size + 2, 0, none⟩) I1b.out.1 (by simp)).trans I1b.out.2)))).mono ?_
          rintro e w'' ⟨G, cp, rfl, hk2, ho2⟩
          refine ⟨_, rfl, ⟨(val1 fun u hu => (by have hn : none = some u := hu; cases hn)), ?_⟩⟩
          have := hM.call1 hk2 ho2
          simpa [upd, updF, q7, q8, q9, q11] using this
      · intro a9 w' done hc h0 hd hl hM
        have e1 : a9.eval (.tmp 3) = _ := hl.1 _ rfl
        refine pureT (v := .pointer (some ⟨w.heap.size, 1, none⟩)) (w := w') ?_ ⟨?_, ?_⟩
        · clear hl hM hd hc h0
          simp only [execOp, e1]
          go_simp
        · exact val1 fun u hu => Option.some.inj hu
        · exact hM
      · intro a9 w' done hc h0 hd hl hM
        have e1 : a9.eval (.tmp 26) = _ := hl.1 _ rfl
        have hc1 : w'.cell? ⟨w.heap.size, 1, none⟩ = some (.slice B m d) := (hM.k.cell (p := ⟨w.heap.size, 1, none⟩) F1.out.lt (by simp)).trans F1.out.c1
        refine pureT (v := (.slice B m d)) (w := w') ?_ ⟨?_, ?_⟩
        · clear hl hM hd hc h0
          simp only [execOp, e1]
          go_simp
        · exact val1 fun u hu => Option.some.inj hu
        · exact hM
      · intro a9 w' done hc h0 hd hl hM
        have e1 : a9.eval (.tmp 27) = _ := hl.1 _ rfl
        have q7 : done 7 = false := hc.not (j := 7) rfl h0 ⟨⟨6, .data⟩, by simp, rfl, rfl⟩
        have q8 : done 8 = false := hc.not (j := 8) rfl q7 ⟨⟨7, .data⟩, by simp, rfl, rfl⟩
        have q9 : done 9 = false := hc.not (j := 9) rfl q8 ⟨⟨8, .data⟩, by simp, rfl, rfl⟩
        have q11 : done 11 = false := hc.not (j := 11) rfl q9 ⟨⟨9, .data⟩, by simp, rfl, rfl⟩
        simp only [h0, q7, q8, q9, q11] at hM
        have KK := Lib.hid (K1.out.later hM.k (by simp))
        refine callT (f := 70) (args := #[.slice B m d]) (w := w') ?_ ?_
        · have e3 : a9.tmps[27]?.getD undef = .slice B m d := by simpa [Act.eval] using e1
          clear hl hM hd hc h0 e1
          simp only [execOp]
          go_simp
        · refine (clone_any B m d rs w' (by exact HB.out.kp KK.out) hm0 hm).mono ?_
          rintro e w'' ⟨G, cp, rfl, hk2, ho2⟩
          refine ⟨_, rfl, ⟨(val1 fun u hu => (by have hn : none = some u := hu; cases hn)), ?_⟩⟩
          have := hM.call2 hk2 ho2
          simpa [upd, updF, q7, q8, q9, q11] using this
      · intro a9 w' done hc h0 hd hl hM
        have n1 : done 3 = true := hd ⟨3, .data⟩ (by simp) rfl
        have n2 : done 6 = true := hd ⟨6, .data⟩ (by simp) rfl
        have q8 : done 8 = false := hc.not (j := 8) rfl h0 ⟨⟨7, .data⟩, by simp, rfl, rfl⟩
        have q9 : done 9 = false := hc.not (j := 9) rfl q8 ⟨⟨8, .data⟩, by simp, rfl, rfl⟩
        have q11 : done 11 = false := hc.not (j := 11) rfl q9 ⟨⟨9, .data⟩, by simp, rfl, rfl⟩
        simp only [h0, n1, n2, q8, q9, q11] at hM
        obtain ⟨X1, y1, ev1, _⟩ := hM.c1 rfl
        obtain ⟨X2, y2, ev2, _⟩ := hM.c2 rfl
        have e3 : a9.tmps[25]?.getD undef = .slice X1 n y1 := by simpa using ev1
        have e4 : a9.tmps[28]?.getD undef = .slice X2 m y2 := by simpa using ev2
        refine pureT (v := .agg #[a9.tmps.getD 25 undef, a9.tmps.getD 28 undef]) (w := w') ?_ ⟨?_, ?_⟩
        · rw [ev1, ev2]
          clear hl hM hd hc h0
          simp only [execOp]
          go_simp
        · exact val1 fun u hu => (by have hn : none = some u := hu; cases hn)
        · have := hM.build
          simpa [upd, updF, n1, n2, q8, q9, q11] using this
      · intro a9 w' done hc h0 hd hl hM
        have n7 : done 7 = true := hd ⟨7, .data⟩ (by simp) rfl
        have n1 : done 3 = true := hc 7 _ rfl n7 ⟨3, .data⟩ (by simp) rfl
        have n2 : done 6 = true := hc 7 _ rfl n7 ⟨6, .data⟩ (by simp) rfl
        have q9 : done 9 = false := hc.not (j := 9) rfl h0 ⟨⟨8, .data⟩, by simp, rfl, rfl⟩
        have q11 : done 11 = false := hc.not (j := 11) rfl q9 ⟨⟨9, .data⟩, by simp, rfl, rfl⟩
        simp only [h0, n1, n2, n7, q9, q11] at hM
        obtain ⟨X1, y1, ev1, ow1⟩ := hM.c1 rfl
        obtain ⟨X2, y2, ev2, ow2⟩ := hM.c2 rfl
        have ev3 := hM.bd rfl
        rw [ev1, ev2] at ev3
        have e3 : a9.tmps[29]?.getD undef = .agg #[.slice X1 n y1, .slice X2 m y2] := by simpa using ev3
        refine callT (f := 71) (args := #[.agg #[.slice X1 n y1, .slice X2 m y2]]) (w := w') ?_ ?_
        · clear hl hM hd hc h0
          simp only [execOp]
          go_simp
        · obtain ⟨_, _, z1, sl1⟩ := ow1.form
          obtain ⟨_, _, z2, sl2⟩ := ow2.form
          injection z1 with z1 z1' z1''
          injection z2 with z2 z2' z2''
          subst z1 z1'' z2 z2''
          rw [← z1'] at sl1
          rw [← z2'] at sl2
          refine (scale_impl X1 n y1 (bs.map (stretchV a b)) X2 m y2 rs w' sl1 sl2 hn hm).mono ?_
          rintro e w'' ⟨bv, hb, hk2, rfl⟩
          obtain rfl := okb_iff hb
          refine ⟨_, rfl, ⟨(val1 fun u hu => (by have hn : none = some u := hu; cases hn)), ?_⟩⟩
          have := hM.scaled hk2
          simpa [upd, updF, n1, n2, n7, q9, q11, e3, nilS] using this
      · intro a9 w' done hc h0 hd hl hM
        have n8 : done 8 = true := hd ⟨8, .data⟩ (by simp) rfl
        have n7 : done 7 = true := hc 8 _ rfl n8 ⟨7, .data⟩ (by simp) rfl
        have n1 : done 3 = true := hc 7 _ rfl n7 ⟨3, .data⟩ (by simp) rfl
        have n2 : done 6 = true := hc 7 _ rfl n7 ⟨6, .data⟩ (by simp) rfl
        have q11 : done 11 = false := hc.not (j := 11) rfl h0 ⟨⟨9, .data⟩, by simp, rfl, rfl⟩
        simp only [h0, n1, n2, n7, n8, q11] at hM
        have ev := hM.sc rfl
        have h2 := hM.ext
        generalize hX : (if okb (OkS (bs.map (stretchV a b)) rs) = true then (fun s => a9.tmps.getD s undef) 29 else nilS) = X at ev h2
        have e3 : a9.tmps[30]?.getD undef = .tuple #[X, .bool (okb (OkS (bs.map (stretchV a b)) rs))] := by simpa using ev
        refine pureT (v := X) (w := w') ?_ ⟨?_, ?_⟩
        · clear hl hM hd hc h0 h2 hX
          simp only [execOp]
          go_simp
        · exact val1 fun u hu => (by have hn : none = some u := hu; cases hn)
        · simpa [upd, updF, n1, n2, n7, n8, q11] using h2
      · intro a9 w' done hc h0 hd hl hM
        have n8 : done 8 = true := hd ⟨8, .data⟩ (by simp) rfl
        have ev := hM.sc n8
        generalize hX : (if okb (OkS (bs.map (stretchV a b)) rs) = true then (fun s => a9.tmps.getD s undef) 29 else nilS) = X at ev
        have e3 : a9.tmps[30]?.getD undef = .tuple #[X, .bool (okb (OkS (bs.map (stretchV a b)) rs))] := by simpa using ev
        refine pureT (v := .bool (okb (OkS (bs.map (stretchV a b)) rs))) (w := w') ?_ ⟨?_, ?_⟩
        · clear hl hM hd hc h0 hX
          simp only [execOp]
          go_simp
        · exact val1 fun u hu => Option.some.inj hu
        · exact hM
      · intro a9 w' done hc h0 hd hl hM
        have e1 : a9.eval (.tmp 6) = _ := hl.1 _ rfl
        have n9 : done 9 = true := hd ⟨9, .data⟩ (by simp) rfl
        have n8 : done 8 = true := hc 9 _ rfl n9 ⟨8, .data⟩ (by simp) rfl
        have n7 : done 7 = true := hc 8 _ rfl n8 ⟨7, .data⟩ (by simp) rfl
        have n1 : done 3 = true := hc 7 _ rfl n7 ⟨3, .data⟩ (by simp) rfl
        have n2 : done 6 = true := hc 7 _ rfl n7 ⟨6, .data⟩ (by simp) rfl
        simp only [h0, n1, n2, n7, n8, n9] at hM
        obtain ⟨X1, y1, ev1, _⟩ := hM.c1 rfl
        obtain ⟨X2, y2, ev2, _⟩ := hM.c2 rfl
        have ev3 := hM.bd rfl
        have ev4 := hM.e0 rfl
        rw [ev1, ev2] at ev3
        rw [ev3] at ev4
        have hc1 := hM.res.c0
        have hc2 := hM.res.c1
        have hf1 := hM.res.f 0
        have hf2 := hM.res.f 1
        simp only [Bool.false_and, Bool.false_eq_true, if_false] at hc1 hc2
        have h2 := hM.store R1.out.lt
        have hS : ∀ (u : Bool), a9.eval (.tmp 31) = (if u = true then .agg #[.slice X1 n y1, .slice X2 m y2] else nilS) → (execOp a9.eval { dst := none, op := Op.store 27 (Operand.tmp 6) (Operand.tmp 31), type := 0, pos := "", after := #[], guard := none }).run Try.prog w' =
            .ok .skip ((w'.setCell ⟨w.heap.size + 3, 0, none⟩ (if u = true then .slice X1 n y1 else .slice none 0 0)).setCell ⟨w.heap.size + 3, 1, none⟩ (if u = true then .slice X2 m y2 else .slice none 0 0)) := by
          intro u e2
          clear hl hM hd hc h0 h2 ev4
          cases u
          · simp only [Bool.false_eq_true, if_false] at e2 ⊢
            simp only [execOp, e1, e2]
            go_simp
          · simp only [if_true] at e2 ⊢
            simp only [execOp, e1, e2]
            go_simp
        refine skipT (hS _ ev4) ⟨val0, ?_⟩
        rw [ev1, ev2] at h2
        simpa [upd, updF, n1, n2, n7, n8, n9, ev1, ev2] using h2
      · intro a9 w' done hc h0 hd hl hM
        have e1 : a9.eval (.tmp 32) = _ := hl.1 _ rfl
        refine pureT (v := .bool (okb (OkS (bs.map (stretchV a b)) rs))) (w := w') ?_ ⟨?_, ?_⟩
        · clear hl hM hd hc h0
          simp only [execOp, e1]
          go_simp
        · exact val1 fun u hu => Option.some.inj hu
        · exact hM
      · intro f w' done hd hM hv
        simp only [hd 3 (by decide), hd 6 (by decide), hd 7 (by decide), hd 8 (by decide), hd 9 (by decide), hd 11 (by decide)] at hM
        have hok : f 7 = .bool (okb (OkS (bs.map (stretchV a b)) rs)) := hv _ (List.mem_of_getElem? (i := 12) rfl) 7 rfl _ rfl
        obtain ⟨X1, y1, ev1, ow1⟩ := hM.c1 rfl
        obtain ⟨X2, y2, ev2, ow2⟩ := hM.c2 rfl
        have ap := hM.ap rfl rfl
        have K3 := Lib.hid (K1.out.later hM.k (by simp))
        have R3 := hM.res
        rw [ev1, ev2] at R3 ap
        have hsz := Lib.hid K1.out.size
        have O3 : Hid (Own2 w.heap.size w' X1 n y1 X2 m y2 (bs.map (stretchV a b)) rs) := Lib.hid ⟨ow1.mono hsz.out, ow2.mono hsz.out, fun u v hu hv' e => by
          subst hu hv'
          exact ap u.block rfl (by rw [e]; rfl)⟩
        clear hM hv hd ow1 ow2 ap ev1 ev2
        simp only [Bool.true_and] at R3
        simp only [putAll, Act.put, List.setIfInBounds_toArray, List.set_cons_succ, List.set_cons_zero, Option.getD_some, Option.getD_none, hok]
        cases hu : okb (OkS (bs.map (stretchV a b)) rs)
        · rw [hu] at R3
          have c0 := R3.c0
          have c1 := R3.c1
          simp only [Bool.false_eq_true, if_false] at c0 c1
          have HN : Hid (¬ (OkS bs rs ∧ inB a 1 1000 = true ∧ inB b 1 1000 = true ∧ OkS (bs.map (stretchV a b)) rs)) := Lib.hid (fun hh => okb_false hu hh.2.2.2)
          clear hu hok R3
          go_wp2_with fail
          refine bodyPost_ret (v := .tuple #[.agg #[.slice none 0 0, .slice none 0 0], .bool false]) ?_ rfl (SPost.no HN.out K3.out)
          simp [results, Try.results41, go_sem, *]
        · rw [hu] at R3
          have c0 := R3.c0
          have c1 := R3.c1
          simp only [if_true] at c0 c1
          have HY : Hid (OkS bs rs ∧ inB a 1 1000 = true ∧ inB b 1 1000 = true ∧ OkS (bs.map (stretchV a b)) rs) := Lib.hid ⟨HO.out, Ha.out, Hb.out, okb_true hu⟩
          clear hu hok R3
          go_wp2_with fail
          refine bodyPost_ret (v := .tuple #[.agg #[.slice X1 n y1, .slice X2 m y2], .bool true]) ?_ rfl (SPost.yes HY.out K3.out O3.out)
          simp [results, Try.results41, go_sem, *]
end Go.Proofs.Ytloffnamjgnkhaa
