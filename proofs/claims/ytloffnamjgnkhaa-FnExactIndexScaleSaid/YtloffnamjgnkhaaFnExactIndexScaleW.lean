/-
  The walk of the law FnExactIndexScale: it returns true. Conditions: the slices read as lists, the whole numbers fit.
-/
import Derived.Test.YtloffnamjgnkhaaIndexI
namespace Go.Proofs.Ytloffnamjgnkhaa.fnExactIndexScale
open Go.RowKit Mem

set_option maxRecDepth 100000 in
set_option maxHeartbeats 4000000 in
theorem walk_of (A : Option Addr) (n c : Nat) (bs : List Int) (B : Option Addr) (m d : Nat) (rs : List Int) (a : Int) (b : Int) (w : World) (h1 : Sl w A n (valsI bs)) (h2 : Sl w B m (valsI rs)) (lnm : n + m ≤ 1048576) (bs2 rs2 : List Int) (ok : Bool) (l3 : bs2.length ≤ 1048576) (l4 : rs2.length ≤ 1048576)
    (hsp : ∀ (A : Option Addr) (c : Nat) (B : Option Addr) (d : Nat) (w : World), Sl w A n (valsI bs) → Sl w B m (valsI rs) → Calls Try.prog 50 #[.agg #[.slice A n c, .slice B m d], .int .i64 a, .int .i64 b] w (SPost bs2 rs2 ok w))
    (him : ∀ (A : Option Addr) (c : Nat) (B : Option Addr) (d : Nat) (w : World), Sl w A n (valsI bs) → Sl w B m (valsI rs) → Calls Try.prog 51 #[.agg #[.slice A n c, .slice B m d], .int .i64 a, .int .i64 b] w (SPost bs2 rs2 ok w)) :
    Calls Try.prog 15 #[.agg #[.slice A n c, .slice B m d], .int .i64 a, .int .i64 b] w fun e w' => e = .returned (.bool true) ∧ Below w.heap.size w w' := by
  have ln : n ≤ 1048576 := by omega
  have lm : m ≤ 1048576 := by omega
  have HZ := Lib.hid (szv_yes (left := 1048576) (n := n) (m := m) (by omega))
  have hz0 : ¬ (1048576 - (n : Int) - m < 0) := by omega
  have hz1 : ¬ ((1 : Int) + n + m < 0) := by omega
  have hz2 : ¬ ((1 : Int) + bs2.length + rs2.length < 0) := by omega
  have e1 : n = bs.length := by rw [← valsI_len, h1.len]
  have e2 : m = rs.length := by rw [← valsI_len, h2.len]
  subst e1
  subst e2
  have HA := Lib.hid h1
  have HB := Lib.hid h2
  have SP := Lib.hid hsp
  have IM := Lib.hid him
  clear h1 h2 lnm hsp him
  have HW := Lib.hid ((Kp.refl w).alloc (.cells #[.slice A bs.length c, .slice B rs.length d] 24))
  have hbox := Bx.new w 24 A bs.length c B rs.length d
  go_enter Try.func15, Try.ntmps15
  go_wp2_with fail
  refine (szs_any A _ c B _ d 1048576 (by omega) (by omega) (by omega) (by omega) _).mono ?_
  rw [HZ.out]
  rintro e w1 ⟨rfl, hk1⟩
  have K1 := Lib.hid (HW.out.tr hk1)
  have P1 := Lib.hid (hbox.kp hk1)
  have c0 := P1.out.c0
  have c1 := P1.out.c1
  clear hk1 HW hbox
  go_wp2_with fail
  refine (tos_own A _ c bs B _ d rs _ (by exact HA.out.kp K1.out) (by exact HB.out.kp K1.out) ln lm).mono ?_
  rintro e w2 ⟨g1, g2, rfl, hk2, o2, _, _⟩
  have K2 := Lib.hid (K1.out.tr hk2)
  have P2 := Lib.hid (P1.out.kp hk2)
  have O2 := Lib.hid o2
  clear hk2 c0 c1 o2 K1 P1
  go_wp2_with fail
  refine (SP.out _ _ _ _ _ (by exact O2.out.sl1) (by exact O2.out.sl2)).mono ?_
  rintro e w3 ⟨A1, k1, B1, k2, rfl, hk3, o3⟩
  have hb3 := Bx.new w3 27 A1 bs2.length k1 B1 rs2.length k2
  have hk3' := (Kp.refl w3).alloc (.cells #[.slice A1 bs2.length k1, .slice B1 rs2.length k2] 27)
  have K3 := Lib.hid ((K2.out.tr hk3).tr hk3')
  have P3 := Lib.hid ((P2.out.kp hk3).kp hk3')
  have R3 := Lib.hid (show ∀ k ∈ bl A1 B1, k < w3.heap.size from fun k hk => (o3.lt k hk).2)
  have O3 := Lib.hid (o3.kp0 hk3')
  have Q3 := Lib.hid hb3
  have Z3 := Lib.hid (show w.heap.size < w3.heap.size from Nat.lt_of_lt_of_le P2.out.lt hk3.size)
  have c0 := P3.out.c0
  have c1 := P3.out.c1
  clear hk3 hk3' o3 hb3 K2 P2 O2
  go_wp2_with fail
  refine (tos_own A _ c bs B _ d rs _ (by exact HA.out.kp K3.out) (by exact HB.out.kp K3.out) ln lm).mono ?_
  rintro e w4 ⟨g3, g4, rfl, hk4, o4, r1, r2⟩
  have hb4 := Bx.new w4 27 (some ⟨g3, 0, none⟩) bs.length bs.length (some ⟨g4, 0, none⟩) rs.length rs.length
  have hk4' := (Kp.refl w4).alloc (.cells #[.slice (some ⟨g3, 0, none⟩) bs.length bs.length, .slice (some ⟨g4, 0, none⟩) rs.length rs.length] 27)
  have K4 := Lib.hid ((K3.out.tr hk4).tr hk4')
  have P4 := Lib.hid ((P3.out.kp hk4).kp hk4')
  have Q4 := Lib.hid ((Q3.out.kp hk4).kp hk4')
  have O4 := Lib.hid ((O3.out.kp0 hk4).kp0 hk4')
  have RX := Lib.hid (show ∀ k ∈ bl (some ⟨g3, 0, none⟩) (some ⟨g4, 0, none⟩), w3.heap.size + 1 ≤ k ∧ k < w4.heap.size from fun k hk => by have := o4.lt k hk; simpa using this)
  have X4 := Lib.hid (o4.kp0 hk4')
  have Y4 := Lib.hid hb4
  have R1 := Lib.hid (r1.kp hk4')
  have R2 := Lib.hid (r2.kp hk4')
  have Z4 := Lib.hid (show w3.heap.size + 1 ≤ w4.heap.size from by simpa using hk4.size)
  have c0' := Y4.out.c0
  have c1' := Y4.out.c1
  clear hk4 hk4' o4 hb4 r1 r2 K3 P3 Q3 O3 c0 c1
  go_wp2_with fail
  refine (IM.out _ _ _ _ _ (by exact X4.out.sl1) (by exact X4.out.sl2)).mono ?_
  rintro e w5 ⟨A2, k3, B2, k4, rfl, hk5, o5⟩
  have hb5 := Bx.new w5 27 A2 bs2.length k3 B2 rs2.length k4
  have hk5' := (Kp.refl w5).alloc (.cells #[.slice A2 bs2.length k3, .slice B2 rs2.length k4] 27)
  have K5 := Lib.hid ((K4.out.tr hk5).tr hk5')
  have P5 := Lib.hid ((P4.out.kp hk5).kp hk5')
  have Q5 := Lib.hid ((Q4.out.kp hk5).kp hk5')
  have Y5 := Lib.hid ((Y4.out.kp hk5).kp hk5')
  have O5 := Lib.hid ((O4.out.kp0 hk5).kp0 hk5')
  have X5 := Lib.hid ((X4.out.kp0 hk5).kp0 hk5')
  have R3' := Lib.hid ((R1.out.kp hk5).kp hk5')
  have R4' := Lib.hid ((R2.out.kp hk5).kp hk5')
  have RG := Lib.hid (show ∀ k ∈ bl A2 B2, w4.heap.size + 1 ≤ k ∧ k < w5.heap.size from fun k hk => by have := o5.lt k hk; simpa using this)
  have G5 := Lib.hid (o5.kp0 hk5')
  have V5 := Lib.hid hb5
  have Z5 := Lib.hid (show w4.heap.size + 1 ≤ w5.heap.size from by simpa using hk5.size)
  have c0 := V5.out.c0
  have c1 := V5.out.c1
  have c2 := Q5.out.c0
  have c3 := Q5.out.c1
  clear hk5 hk5' o5 hb5 K4 P4 Q4 Y4 O4 X4 R1 R2 c0' c1'
  go_wp2_with fail
  refine (same_law _ _ _ bs2 _ _ _ rs2 _ _ _ bs2 _ _ _ rs2 _ (by exact G5.out.sl1) (by exact G5.out.sl2) (by exact O5.out.sl1) (by exact O5.out.sl2) l3 l4 l3 l4).mono ?_
  rw [eqS_refl]
  rintro e w6 ⟨rfl, hk6⟩
  have K6 := Lib.hid (K5.out.tr hk6)
  have P6 := Lib.hid (P5.out.kp hk6)
  have Q6 := Lib.hid (Q5.out.kp hk6)
  have Y6 := Lib.hid (Y5.out.kp hk6)
  have V6 := Lib.hid (V5.out.kp hk6)
  have O6 := Lib.hid (O5.out.kp0 hk6)
  have X6 := Lib.hid (X5.out.kp0 hk6)
  have G6 := Lib.hid (G5.out.kp0 hk6)
  have R5 := Lib.hid (R3'.out.kp hk6)
  have R6 := Lib.hid (R4'.out.kp hk6)
  clear hk6 K5 P5 Q5 Y5 V5 O5 X5 G5 R3' R4' c0 c1 c2 c3
  go_wp2_with fail
  refine eq_region (sx := 10) (sa := 3) (d := 49) (px := w4.heap.size) (pa := w.heap.size) (by kernel_rfl) rfl (by decide) rfl rfl Y6.out.lt P6.out.lt Y6.out.c0 Y6.out.c1 P6.out.c0 P6.out.c1 R5.out R6.out (HA.out.kp K6.out) (HB.out.kp K6.out) ln lm ?_
  intro v w7 hk7
  have K7 := Lib.hid (K6.out.tr hk7)
  have P7 := Lib.hid (P6.out.kp hk7)
  have Q7 := Lib.hid (Q6.out.kp hk7)
  have Y7 := Lib.hid (Y6.out.kp hk7)
  have V7 := Lib.hid (V6.out.kp hk7)
  have O7 := Lib.hid (O6.out.kp0 hk7)
  have X7 := Lib.hid (X6.out.kp0 hk7)
  have G7 := Lib.hid (G6.out.kp0 hk7)
  have c0 := Y7.out.c0
  have c1 := Y7.out.c1
  clear hk7 K6 P6 Q6 Y6 V6 O6 X6 G6 R5 R6
  simp only [Act.put, List.setIfInBounds_toArray, List.set_cons_succ, List.set_cons_zero]
  go_wp2_with fail
  refine (markS (Bd := 0) _ _ _ _ _ _ bs rs 1 _ (by exact X7.out.mono (Nat.zero_le _)) ln lm (by omega) (by omega)).mono ?_
  rintro e w8 ⟨rfl, hk8, _⟩
  have K8 := Lib.hid (show Kp [] w w8 from ((K7.out.trans hk8).mono (by intro t ht hlt; have := RX.out t (by simpa using ht); have := Z3.out; omega)))
  have P8 := Lib.hid (P7.out.keep hk8 (by intro hh; have := RX.out _ hh; have := Z3.out; omega))
  have Q8 := Lib.hid (Q7.out.keep hk8 (by intro hh; have := RX.out _ hh; omega))
  have V8 := Lib.hid (V7.out.keep hk8 (by intro hh; have := RX.out _ hh; have := Z5.out; omega))
  have O8 := Lib.hid (O7.out.kp hk8 (by intro k hk hh; have := RX.out _ hh; have := R3.out _ hk; omega))
  have G8 := Lib.hid (G7.out.kp hk8 (by intro k hk hh; have := RX.out _ hh; have := RG.out _ hk; omega))
  have c0' := V8.out.c0
  have c1' := V8.out.c1
  have c2 := Q8.out.c0
  have c3 := Q8.out.c1
  clear hk8 K7 P7 Q7 Y7 V7 O7 X7 G7 c0 c1
  go_wp2_with fail
  refine (same_law _ _ _ bs2 _ _ _ rs2 _ _ _ bs2 _ _ _ rs2 _ (by exact G8.out.sl1) (by exact G8.out.sl2) (by exact O8.out.sl1) (by exact O8.out.sl2) l3 l4 l3 l4).mono ?_
  rw [eqS_refl]
  rintro e w9 ⟨rfl, hk9⟩
  have K9 := Lib.hid (K8.out.tr hk9)
  have P9 := Lib.hid (P8.out.kp hk9)
  have Q9 := Lib.hid (Q8.out.kp hk9)
  have V9 := Lib.hid (V8.out.kp hk9)
  have O9 := Lib.hid (O8.out.kp0 hk9)
  have G9 := Lib.hid (G8.out.kp0 hk9)
  have c0 := V9.out.c0
  have c1 := V9.out.c1
  clear hk9 K8 P8 Q8 V8 O8 G8 c0' c1' c2 c3
  go_wp2_with fail
  refine (markS (Bd := 0) _ _ _ _ _ _ bs2 rs2 1 _ (by exact G9.out.mono (Nat.zero_le _)) l3 l4 (by omega) (by omega)).mono ?_
  rintro e w10 ⟨rfl, hk10, og⟩
  have K10 := Lib.hid (show Kp [] w w10 from ((K9.out.trans hk10).mono (by intro t ht hlt; have := RG.out t (by simpa using ht); have := Z3.out; have := Z4.out; omega)))
  have P10 := Lib.hid (P9.out.keep hk10 (by intro hh; have := RG.out _ hh; have := Z3.out; have := Z4.out; omega))
  have Q10 := Lib.hid (Q9.out.keep hk10 (by intro hh; have := RG.out _ hh; have := Z4.out; omega))
  have V10 := Lib.hid (V9.out.keep hk10 (by intro hh; have := RG.out _ hh; omega))
  have O10 := Lib.hid (O9.out.kp hk10 (by intro k hk hh; have := RG.out _ hh; have := R3.out _ hk; have := Z4.out; omega))
  have G10 := Lib.hid og
  have c0' := V10.out.c0
  have c1' := V10.out.c1
  clear hk10 K9 P9 Q9 V9 O9 G9 og c0 c1
  go_wp2_with fail
  refine (heldS _ _ _ _ _ _ 1 _ (by exact G10.out.sl1) (by exact G10.out.sl2) l3 l4 (by omega) (by omega)).mono ?_
  rintro e w11 ⟨rfl, hk11⟩
  have K11 := Lib.hid (K10.out.tr hk11)
  have P11 := Lib.hid (P10.out.kp hk11)
  have Q11 := Lib.hid (Q10.out.kp hk11)
  have V11 := Lib.hid (V10.out.kp hk11)
  have O11 := Lib.hid (O10.out.kp0 hk11)
  have G11 := Lib.hid (G10.out.kp0 hk11)
  have c0 := P11.out.c0
  have c1 := P11.out.c1
  clear hk11 K10 P10 Q10 V10 O10 G10 c0' c1'
  go_wp2_with fail
  refine (tos_own A _ c bs B _ d rs _ (by exact HA.out.kp K11.out) (by exact HB.out.kp K11.out) ln lm).mono ?_
  rintro e w12 ⟨g5, g6, rfl, hk12, o12, _, _⟩
  have K12 := Lib.hid (K11.out.tr hk12)
  have Q12 := Lib.hid (Q11.out.kp hk12)
  have V12 := Lib.hid (V11.out.kp hk12)
  have O12 := Lib.hid (O11.out.kp0 hk12)
  have G12 := Lib.hid (G11.out.kp0 hk12)
  have X12 := Lib.hid o12
  clear hk12 K11 P11 Q11 V11 O11 G11 c0 c1 o12
  go_wp2_with fail
  refine (IM.out _ _ _ _ _ (by exact X12.out.sl1) (by exact X12.out.sl2)).mono ?_
  rintro e w13 ⟨A3, k5, B3, k6, rfl, hk13, o13⟩
  have hb13 := Bx.new w13 27 A3 bs2.length k5 B3 rs2.length k6
  have hk13' := (Kp.refl w13).alloc (.cells #[.slice A3 bs2.length k5, .slice B3 rs2.length k6] 27)
  have K13 := Lib.hid ((K12.out.tr hk13).tr hk13')
  have Q13 := Lib.hid ((Q12.out.kp hk13).kp hk13')
  have V13 := Lib.hid ((V12.out.kp hk13).kp hk13')
  have O13 := Lib.hid ((O12.out.kp0 hk13).kp0 hk13')
  have G13 := Lib.hid ((G12.out.kp0 hk13).kp0 hk13')
  have N13 := Lib.hid (o13.kp0 hk13')
  have c0 := hb13.c0
  have c1 := hb13.c1
  have c2 := Q13.out.c0
  have c3 := Q13.out.c1
  clear hk13 hk13' o13 hb13 K12 Q12 V12 O12 G12 X12
  go_wp2_with fail
  refine (same_law _ _ _ bs2 _ _ _ rs2 _ _ _ bs2 _ _ _ rs2 _ (by exact N13.out.sl1) (by exact N13.out.sl2) (by exact O13.out.sl1) (by exact O13.out.sl2) l3 l4 l3 l4).mono ?_
  rw [eqS_refl]
  rintro e w14 ⟨rfl, hk14⟩
  have K14 := Lib.hid (K13.out.tr hk14)
  have V14 := Lib.hid (V13.out.kp hk14)
  have G14 := Lib.hid (G13.out.kp0 hk14)
  have c0' := V14.out.c0
  have c1' := V14.out.c1
  clear hk14 K13 Q13 V13 O13 G13 N13 c0 c1 c2 c3
  go_wp2_with fail
  refine (heldS _ _ _ _ _ _ 1 _ (by exact G14.out.sl1) (by exact G14.out.sl2) l3 l4 (by omega) (by omega)).mono ?_
  rintro e w15 ⟨rfl, hk15⟩
  have K15 := Lib.hid (K14.out.tr hk15)
  clear hk15 K14 V14 G14 c0' c1'
  go_wp2_with fail
  go_ret
  exact ⟨rfl, K15.out.below0⟩

set_option maxHeartbeats 400000 in
theorem walk (A : Option Addr) (n c : Nat) (bs : List Int) (B : Option Addr) (m d : Nat) (rs : List Int) (a : Int) (b : Int) (w : World) (h1 : Sl w A n (valsI bs)) (hn : n ≤ 9223372036854775807) (h2 : Sl w B m (valsI rs)) (hm : m ≤ 9223372036854775807) (_ : (Lit.int .i64 a).wf = true) (_ : (Lit.int .i64 b).wf = true) :
    Calls Try.prog 15 #[.agg #[.slice A n c, .slice B m d], .int .i64 a, .int .i64 b] w fun e w' => e = .returned (.bool true) ∧ Below w.heap.size w w' := by
  by_cases hsz : (n : Int) + m ≤ 1048576
  · have ln : n ≤ 1048576 := by omega
    have lm : m ≤ 1048576 := by omega
    have e1 : n = bs.length := by rw [← valsI_len, h1.len]
    have e2 : m = rs.length := by rw [← valsI_len, h2.len]
    exact walk_of A n c bs B m d rs a b w h1 h2 (by omega) (whenP (OkS bs rs ∧ inB a (-5000) 10000 = true ∧ inB b 1 1000000 = true ∧ OkS (bs.map (indexV a b)) rs) (bs.map (indexV a b))) (whenP (OkS bs rs ∧ inB a (-5000) 10000 = true ∧ inB b 1 1000000 = true ∧ OkS (bs.map (indexV a b)) rs) rs) (okb (OkS bs rs ∧ inB a (-5000) 10000 = true ∧ inB b 1 1000000 = true ∧ OkS (bs.map (indexV a b)) rs)) (by exact whenP_len (by rw [List.length_map]; omega)) (by exact whenP_len (by omega))
      (fun A c B d w h h2 => index_spec A n c bs B m d rs a b w h h2 ln lm) (fun A c B d w h h2 => index_impl A n c bs B m d rs a b w h h2 ln lm)
  · have HZ := Lib.hid (szv_no (left := 1048576) hsz)
    clear hsz h1 h2
    have HW := Lib.hid ((Kp.refl w).alloc (.cells #[.slice A n c, .slice B m d] 24))
    go_enter Try.func15, Try.ntmps15
    go_wp2_with fail
    refine (szs_any A _ c B _ d 1048576 (by omega) (by omega) hn hm _).mono ?_
    rw [HZ.out]
    rintro e w1 ⟨rfl, hk1⟩
    have K1 := Lib.hid (HW.out.tr hk1)
    clear hk1 HW
    go_wp2_with fail
    go_ret
    exact ⟨rfl, K1.out.below0⟩
end Go.Proofs.Ytloffnamjgnkhaa.fnExactIndexScale
