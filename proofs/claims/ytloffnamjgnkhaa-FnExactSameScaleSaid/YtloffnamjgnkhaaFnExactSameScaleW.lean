/-
  The walk of the law on SameScale: it returns true. Conditions: the slices read as lists.
-/
import Derived.Test.YtloffnamjgnkhaaBx
namespace Go.Proofs.Ytloffnamjgnkhaa.fnExactSameScale
open Go.RowKit Mem Flo

/-- What may lie in the slots of the region that calls the reference. -/
def sT (pa pb : Nat) (AS BS : Value) (b1 r1 b2 r2 : List Int) (s : Nat) (v : Value) (w : World) : Prop :=
  match s with
  | 2 => v = .pointer (some ⟨pa, 0, none⟩)
  | 3 => v = .pointer (some ⟨pb, 0, none⟩)
  | 20 => v = AS
  | 22 => v = BS
  | 21 => OwnScale 0 b1 r1 v w
  | 23 => OwnScale 0 b2 r2 v w
  | 24 | 6 => v = .bool (eqS b1 r1 b2 r2)
  | _ => True
theorem sT_kp {pa pb : Nat} {AS BS : Value} {b1 r1 b2 r2 : List Int} (s : Nat) (v : Value) (w1 w2 : World) (hk : Kp [] w1 w2) (h : sT pa pb AS BS b1 r1 b2 r2 s v w1) : sT pa pb AS BS b1 r1 b2 r2 s v w2 := by
  unfold sT at *
  split at h <;> first | exact h | exact h.kp hk

set_option maxHeartbeats 8000000 in
theorem walk (A : Option Addr) (n c : Nat) (b1 : List Int) (B : Option Addr) (m d : Nat) (r1 : List Int) (A2 : Option Addr) (n2 c2 : Nat) (b2 : List Int) (B2 : Option Addr) (m2 d2 : Nat) (r2 : List Int) (w : World)
    (h1 : Sl w A n (valsI b1)) (hn : n ≤ 9223372036854775807) (h2 : Sl w B m (valsI r1)) (hm : m ≤ 9223372036854775807)
    (h3 : Sl w A2 n2 (valsI b2)) (hn2 : n2 ≤ 9223372036854775807) (h4 : Sl w B2 m2 (valsI r2)) (hm2 : m2 ≤ 9223372036854775807) :
    Calls Try.prog 3 #[.agg #[.slice A n c, .slice B m d], .agg #[.slice A2 n2 c2, .slice B2 m2 d2]] w fun e w' => e = .returned (.bool true) ∧ Below w.heap.size w w' := by
  have W1 := Lib.hid ((Kp.refl w).alloc (.cells #[.slice A n c, .slice B m d] 24))
  have HW := Lib.hid (W1.out.alloc (.cells #[.slice A2 n2 c2, .slice B2 m2 d2] 24))
  have BA := Lib.hid ((Bx.new w 24 A n c B m d).kp ((Kp.refl _).alloc (.cells #[.slice A2 n2 c2, .slice B2 m2 d2] 24)))
  have BB := Lib.hid (Bx.new (w.alloc (.cells #[.slice A n c, .slice B m d] 24)) 24 A2 n2 c2 B2 m2 d2)
  rw [show (w.alloc (.cells #[.slice A n c, .slice B m d] 24)).heap.size = w.heap.size + 1 by simp] at BB
  clear W1
  by_cases hsz : (n : Int) + m ≤ 1048576
  · have HZ := Lib.hid (szv_yes hsz)
    have hz0 : ¬ ((1048576 : Int) - n - m < 0) := by omega
    by_cases hsz2 : (n2 : Int) + m2 ≤ 1048576 - n - m
    · have HZ2 := Lib.hid (szv_yes hsz2)
      have hz2 : ¬ ((1048576 : Int) - n - m - n2 - m2 < 0) := by omega
      have ln : n ≤ 1048576 := by omega
      have lm : m ≤ 1048576 := by omega
      have ln2 : n2 ≤ 1048576 := by omega
      have lm2 : m2 ≤ 1048576 := by omega
      have l0 : (0 : Int) ≤ 1048576 - n - m := by omega
      have l1 : (1048576 : Int) - n - m ≤ 1048576 := by omega
      have e1 : n = b1.length := by rw [← valsI_len, h1.len]
      have e2 : m = r1.length := by rw [← valsI_len, h2.len]
      have e3 : n2 = b2.length := by rw [← valsI_len, h3.len]
      have e4 : m2 = r2.length := by rw [← valsI_len, h4.len]
      subst e1
      subst e2
      subst e3
      subst e4
      have HA := Lib.hid h1
      have HB := Lib.hid h2
      have HC := Lib.hid h3
      have HD := Lib.hid h4
      clear h1 h2 h3 h4 hsz hsz2
      have c0 := BA.out.c0
      have c1 := BA.out.c1
      have d0 := BB.out.c0
      have d1 := BB.out.c1
      go_enter Try.func3, Try.ntmps3
      go_wp2_with fail
      refine (szs_any A _ c B _ d 1048576 (by omega) (by omega) hn hm _).mono ?_
      rw [HZ.out]
      rintro e w1 ⟨rfl, hk1⟩
      have K1 := Lib.hid (HW.out.tr hk1)
      have BA1 := Lib.hid (BA.out.kp hk1)
      have BB1 := Lib.hid (BB.out.kp hk1)
      clear hk1 HW BA BB c0 c1 d0 d1
      have c0 := BA1.out.c0
      have c1 := BA1.out.c1
      have d0 := BB1.out.c0
      have d1 := BB1.out.c1
      go_wp2_with fail
      refine (szs_any A2 _ c2 B2 _ d2 _ l0 l1 hn2 hm2 _).mono ?_
      rw [HZ2.out]
      rintro e w2 ⟨rfl, hk1⟩
      have K2 := Lib.hid (K1.out.tr hk1)
      have BA2 := Lib.hid (BA1.out.kp hk1)
      have BB2 := Lib.hid (BB1.out.kp hk1)
      clear hk1 K1 BA1 BB1 c0 c1 d0 d1
      have c0 := BA2.out.c0
      have c1 := BA2.out.c1
      have d0 := BB2.out.c0
      have d1 := BB2.out.c1
      go_wp2_with fail
      refine wp_region_typed_lit (by kernel_rfl) (by kernel_rfl) rfl (Kp []) (sT w.heap.size (w.heap.size + 1) (.agg #[.slice A b1.length c, .slice B r1.length d]) (.agg #[.slice A2 b2.length c2, .slice B2 r2.length d2]) b1 r1 b2 r2) Kp.refl (fun _ _ _ => Kp.tr) (fun w => (Kp.refl w).drew) sT_kp ?_ ?_ ?_
      · refine ⟨⟨.inr rfl, trivial⟩, ⟨.inl rfl, trivial⟩, ⟨.inr rfl, trivial⟩, ⟨.inl rfl, trivial⟩, ⟨.inl rfl, .inl rfl, trivial⟩, ⟨.inl rfl, trivial⟩, trivial⟩
      · clear c0 c1 d0 d1
        refine ⟨fun a w' hk hl => ?_, fun a w' hk hl => ?_, fun a w' hk hl => ?_, fun a w' hk hl => ?_, fun a w' hk hl => ?_, fun a w' hk hl => ?_, trivial⟩
        · have e1 : a.eval (.tmp 2) = .pointer (some ⟨w.heap.size, 0, none⟩) := hl.1
          have b := BA2.out.kp hk
          have y0 := b.c0
          have y1 := b.c1
          refine pure_step Kp.refl rfl (v := .agg #[.slice A b1.length c, .slice B r1.length d]) ?_ rfl
          clear hl b hk
          simp only [execOp, e1]
          go_simp
        · have e1 : a.eval (.tmp 20) = .agg #[.slice A b1.length c, .slice B r1.length d] := hl.1
          refine call_step rfl (f := 20) (args := #[.agg #[.slice A b1.length c, .slice B r1.length d]]) ?_ ?_
          · clear hl hk
            simp only [execOp]
            go_simp
            simpa [Act.eval] using e1
          · refine (tos_any A _ c b1 B _ d r1 w' ((HA.out.kp K2.out).kp hk) ((HB.out.kp K2.out).kp hk) ln lm).mono ?_
            rintro e w2 ⟨v, rfl, hk2, ho⟩
            exact ⟨v, rfl, hk2, ho.mono (Nat.zero_le _)⟩
        · have e1 : a.eval (.tmp 3) = .pointer (some ⟨w.heap.size + 1, 0, none⟩) := hl.1
          have b := BB2.out.kp hk
          have y0 := b.c0
          have y1 := b.c1
          refine pure_step Kp.refl rfl (v := .agg #[.slice A2 b2.length c2, .slice B2 r2.length d2]) ?_ rfl
          clear hl b hk
          simp only [execOp, e1]
          go_simp
        · have e1 : a.eval (.tmp 22) = .agg #[.slice A2 b2.length c2, .slice B2 r2.length d2] := hl.1
          refine call_step rfl (f := 20) (args := #[.agg #[.slice A2 b2.length c2, .slice B2 r2.length d2]]) ?_ ?_
          · clear hl hk
            simp only [execOp]
            go_simp
            simpa [Act.eval] using e1
          · refine (tos_any A2 _ c2 b2 B2 _ d2 r2 w' ((HC.out.kp K2.out).kp hk) ((HD.out.kp K2.out).kp hk) ln2 lm2).mono ?_
            rintro e w2 ⟨v, rfl, hk2, ho⟩
            exact ⟨v, rfl, hk2, ho.mono (Nat.zero_le _)⟩
        · have o1 : OwnScale 0 b1 r1 (a.tmps.getD 21 undef) w' := hl.1
          have o2 : OwnScale 0 b2 r2 (a.tmps.getD 23 undef) w' := hl.2.1
          obtain ⟨g1, g2, e1, _, _, q1, q2⟩ := o1
          obtain ⟨g3, g4, e2, _, _, q3, q4⟩ := o2
          refine call_step rfl (f := 19) (args := #[.agg #[.slice (some ⟨g1, 0, none⟩) b1.length b1.length, .slice (some ⟨g2, 0, none⟩) r1.length r1.length], .agg #[.slice (some ⟨g3, 0, none⟩) b2.length b2.length, .slice (some ⟨g4, 0, none⟩) r2.length r2.length]]) ?_ ?_
          · clear hl hk q1 q2 q3 q4
            simp only [execOp]
            go_simp
            try exact ⟨by simpa [Act.eval] using e1, by simpa [Act.eval] using e2⟩
          · refine (same_spec _ _ _ b1 _ _ _ r1 _ _ _ b2 _ _ _ r2 w' (q1.sl (valsI_len _)) (q2.sl (valsI_len _)) (q3.sl (valsI_len _)) (q4.sl (valsI_len _)) ln lm ln2 lm2).mono ?_
            rintro e w2 ⟨rfl, hk2⟩
            exact ⟨_, rfl, hk2, rfl⟩
        · have e1 : a.eval (.tmp 24) = .bool (eqS b1 r1 b2 r2) := hl.1
          refine pure_step Kp.refl rfl (v := .bool (eqS b1 r1 b2 r2)) ?_ rfl
          simp only [execOp, e1]
          rfl
      · intro f w3 hk3 hv
        obtain ⟨v20, _, v22, _, v24, v6, _⟩ := hv
        have v6 : f 6 = .bool (eqS b1 r1 b2 r2) := v6
        have K3 := Lib.hid (K2.out.tr hk3)
        have BA3 := Lib.hid (BA2.out.kp hk3)
        have BB3 := Lib.hid (BB2.out.kp hk3)
        clear v20 v22 v24 hk3 K2 BA2 BB2 c0 c1 d0 d1
        dsimp only [putAll, Act.put, Option.getD_some]
        rw [v6]
        generalize f 20 = f20
        generalize f 21 = f21
        generalize f 22 = f22
        generalize f 23 = f23
        generalize f 24 = f24
        clear v6
        simp only [List.setIfInBounds_toArray, List.set_cons_succ, List.set_cons_zero]
        have c0 := BA3.out.c0
        have c1 := BA3.out.c1
        have d0 := BB3.out.c0
        have d1 := BB3.out.c1
        go_wp2_with fail
        refine (tos_any A _ c b1 B _ d r1 _ (by exact HA.out.kp K3.out) (by exact HB.out.kp K3.out) ln lm).mono ?_
        rintro e w4 ⟨v, rfl, hk4, g1, g2, rfl, _, _, q1, q2⟩
        have K4 := Lib.hid ((K3.out.tr hk4).alloc (.cells #[.slice (some ⟨g1, 0, none⟩) b1.length b1.length, .slice (some ⟨g2, 0, none⟩) r1.length r1.length] 27))
        have BA4 := Lib.hid (BA3.out.kp (hk4.alloc (.cells #[.slice (some ⟨g1, 0, none⟩) b1.length b1.length, .slice (some ⟨g2, 0, none⟩) r1.length r1.length] 27)))
        have BB4 := Lib.hid (BB3.out.kp (hk4.alloc (.cells #[.slice (some ⟨g1, 0, none⟩) b1.length b1.length, .slice (some ⟨g2, 0, none⟩) r1.length r1.length] 27)))
        have R1 := Lib.hid (q1.kp ((Kp.refl _).alloc (.cells #[.slice (some ⟨g1, 0, none⟩) b1.length b1.length, .slice (some ⟨g2, 0, none⟩) r1.length r1.length] 27)))
        have R2 := Lib.hid (q2.kp ((Kp.refl _).alloc (.cells #[.slice (some ⟨g1, 0, none⟩) b1.length b1.length, .slice (some ⟨g2, 0, none⟩) r1.length r1.length] 27)))
        have X1 := Lib.hid (Bx.new w4 27 (some ⟨g1, 0, none⟩) b1.length b1.length (some ⟨g2, 0, none⟩) r1.length r1.length)
        clear hk4 q1 q2 K3 BA3 BB3 c0 c1 d0 d1
        have d0 := BB4.out.c0
        have d1 := BB4.out.c1
        go_wp2_with fail
        refine (tos_any A2 _ c2 b2 B2 _ d2 r2 _ (by exact HC.out.kp K4.out) (by exact HD.out.kp K4.out) ln2 lm2).mono ?_
        rintro e w5 ⟨v, rfl, hk4, g3, g4, rfl, _, _, q3, q4⟩
        have hk5 := hk4.alloc (.cells #[.slice (some ⟨g3, 0, none⟩) b2.length b2.length, .slice (some ⟨g4, 0, none⟩) r2.length r2.length] 27)
        have K5 := Lib.hid (K4.out.tr hk5)
        have BA5 := Lib.hid (BA4.out.kp hk5)
        have BB5 := Lib.hid (BB4.out.kp hk5)
        have R3 := Lib.hid (R1.out.kp hk5)
        have R4 := Lib.hid (R2.out.kp hk5)
        have X2 := Lib.hid (X1.out.kp hk5)
        have R5 := Lib.hid (q3.kp ((Kp.refl _).alloc (.cells #[.slice (some ⟨g3, 0, none⟩) b2.length b2.length, .slice (some ⟨g4, 0, none⟩) r2.length r2.length] 27)))
        have R6 := Lib.hid (q4.kp ((Kp.refl _).alloc (.cells #[.slice (some ⟨g3, 0, none⟩) b2.length b2.length, .slice (some ⟨g4, 0, none⟩) r2.length r2.length] 27)))
        have Y2 := Lib.hid (Bx.new w5 27 (some ⟨g3, 0, none⟩) b2.length b2.length (some ⟨g4, 0, none⟩) r2.length r2.length)
        clear hk4 hk5 q3 q4 K4 BA4 BB4 R1 R2 X1 d0 d1
        have x0 := X2.out.c0
        have x1 := X2.out.c1
        have y0 := Y2.out.c0
        have y1 := Y2.out.c1
        go_wp2_with fail
        refine (same_impl _ _ _ b1 _ _ _ r1 _ _ _ b2 _ _ _ r2 _ (by exact R3.out.sl (valsI_len _)) (by exact R4.out.sl (valsI_len _)) (by exact R5.out.sl (valsI_len _)) (by exact R6.out.sl (valsI_len _)) ln lm ln2 lm2).mono ?_
        rintro e w6 ⟨rfl, hk6⟩
        have K6 := Lib.hid (K5.out.tr hk6)
        have BA6 := Lib.hid (BA5.out.kp hk6)
        have BB6 := Lib.hid (BB5.out.kp hk6)
        have R7 := Lib.hid (R3.out.kp hk6)
        have R8 := Lib.hid (R4.out.kp hk6)
        have R9 := Lib.hid (R5.out.kp hk6)
        have R10 := Lib.hid (R6.out.kp hk6)
        have X3 := Lib.hid (X2.out.kp hk6)
        have Y3 := Lib.hid (Y2.out.kp hk6)
        clear hk6 K5 BA5 BB5 R3 R4 R5 R6 X2 Y2 x0 x1 y0 y1
        go_wp2_with fail
        refine eq_region (sx := 7) (sa := 2) (d := 35) (px := w4.heap.size) (pa := w.heap.size) (by kernel_rfl) rfl (by decide) rfl rfl X3.out.lt BA6.out.lt X3.out.c0 X3.out.c1 BA6.out.c0 BA6.out.c1 R7.out R8.out (HA.out.kp K6.out) (HB.out.kp K6.out) ln lm ?_
        intro v w7 hk7
        have K7 := Lib.hid (K6.out.tr hk7)
        have BB7 := Lib.hid (BB6.out.kp hk7)
        have R11 := Lib.hid (R9.out.kp hk7)
        have R12 := Lib.hid (R10.out.kp hk7)
        have Y4 := Lib.hid (Y3.out.kp hk7)
        clear hk7 K6 BA6 BB6 R7 R8 R9 R10 X3 Y3
        simp only [Act.put, List.setIfInBounds_toArray, List.set_cons_succ, List.set_cons_zero]
        go_wp2_with fail
        refine eq_region (sx := 8) (sa := 3) (d := 40) (px := w5.heap.size) (pa := w.heap.size + 1) (by kernel_rfl) rfl (by decide) rfl rfl Y4.out.lt BB7.out.lt Y4.out.c0 Y4.out.c1 BB7.out.c0 BB7.out.c1 R11.out R12.out (HC.out.kp K7.out) (HD.out.kp K7.out) ln2 lm2 ?_
        intro v w8 hk8
        have K8 := Lib.hid (K7.out.tr hk8)
        clear hk8
        simp only [Act.put, List.setIfInBounds_toArray, List.set_cons_succ, List.set_cons_zero]
        go_wp2_with fail
        go_ret
        exact ⟨rfl, K8.out.below0⟩
    · have HZ2 := Lib.hid (szv_no hsz2)
      have l0 : (0 : Int) ≤ 1048576 - n - m := by omega
      have l1 : (1048576 : Int) - n - m ≤ 1048576 := by omega
      clear hsz hsz2 h1 h2 h3 h4
      have c0 := BA.out.c0
      have c1 := BA.out.c1
      have d0 := BB.out.c0
      have d1 := BB.out.c1
      go_enter Try.func3, Try.ntmps3
      go_wp2_with fail
      refine (szs_any A _ c B _ d 1048576 (by omega) (by omega) hn hm _).mono ?_
      rw [HZ.out]
      rintro e w1 ⟨rfl, hk1⟩
      have K1 := Lib.hid (HW.out.tr hk1)
      have BB1 := Lib.hid (BB.out.kp hk1)
      clear hk1 HW BA BB c0 c1 d0 d1
      have d0 := BB1.out.c0
      have d1 := BB1.out.c1
      go_wp2_with fail
      refine (szs_any A2 _ c2 B2 _ d2 _ l0 l1 hn2 hm2 _).mono ?_
      rw [HZ2.out]
      rintro e w2 ⟨rfl, hk1⟩
      have K2 := Lib.hid (K1.out.tr hk1)
      clear hk1
      go_wp2_with fail
      go_ret
      exact ⟨rfl, K2.out.below0⟩
  · have HZ := Lib.hid (szv_no hsz)
    clear hsz h1 h2 h3 h4
    have c0 := BA.out.c0
    have c1 := BA.out.c1
    go_enter Try.func3, Try.ntmps3
    go_wp2_with fail
    refine (szs_any A _ c B _ d 1048576 (by omega) (by omega) hn hm _).mono ?_
    rw [HZ.out]
    rintro e w1 ⟨rfl, hk1⟩
    have K1 := Lib.hid (HW.out.tr hk1)
    clear hk1 HW
    go_wp2_with fail
    go_ret
    exact ⟨rfl, K1.out.below0⟩
end Go.Proofs.Ytloffnamjgnkhaa.fnExactSameScale
