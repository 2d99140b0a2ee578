/-
  The walk of the law FnExactScaleOf: it returns true. Conditions: the slices read as lists, the whole number fits.
-/
import Derived.Test.YtloffnamjgnkhaaScaleI
import Derived.Test.YtloffnamjgnkhaaScaleS
namespace Go.Proofs.Ytloffnamjgnkhaa.fnExactScaleOf
open Go.RowKit Mem

theorem to1 (A : Option Addr) (n c : Nat) (zs : List Int) (w : World) (h : Sl w A n (valsI zs)) (hn : n ≤ 1048576) :
    Calls Try.prog 32 #[.slice A n c] w fun e w' => ∃ g, e = .returned (.slice (some ⟨g, 0, none⟩) n n) ∧ Kp [] w w' ∧ Own w.heap.size w' (.slice (some ⟨g, 0, none⟩) n n) zs ∧ w.heap.size ≤ g ∧ g < w'.heap.size := by
  refine (to_anyI A n c zs w h hn).mono ?_
  rintro e w' ⟨rfl, rfl⟩
  have e1 : n = zs.length := by rw [← valsI_len, h.len]
  subst e1
  exact ⟨_, rfl, (Kp.refl w).alloc _, own_new w zs hn (Nat.le_refl _), Nat.le_refl _, by simp⟩
theorem own_sl {Bd : Nat} {w : World} {A : Option Addr} {n c : Nat} {xs : List Int} (h : Own Bd w (.slice A n c) xs) : Sl w A n (valsI xs) := by
  obtain ⟨A', c', e, hs⟩ := h.form
  injection e with e1 e2 e3
  subst e1 e2
  exact hs
theorem eqL_refl (zs : List Int) : eqL zs zs = true := by simp [eqL]

set_option maxRecDepth 100000 in
set_option maxHeartbeats 4000000 in
theorem walk_of (A : Option Addr) (n c : Nat) (bs : List Int) (B : Option Addr) (m d : Nat) (us : List Int) (top : Int) (w : World) (h1 : Sl w A n (valsI bs)) (h2 : Sl w B m (valsI us)) (ln : n ≤ 1048576) (lm : m ≤ 1048576) (bs2 rs2 : List Int) (ok : Bool) (l3 : bs2.length ≤ 1048576) (l4 : rs2.length ≤ 1048576)
    (hsp : ∀ (A : Option Addr) (c : Nat) (B : Option Addr) (d : Nat) (w : World), Sl w A n (valsI bs) → Sl w B m (valsI us) → Calls Try.prog 31 #[.slice A n c, .slice B m d, .int .i64 top] w (SPost bs2 rs2 ok w))
    (him : ∀ (A : Option Addr) (c : Nat) (B : Option Addr) (d : Nat) (w : World), Sl w A n (valsI bs) → Sl w B m (valsI us) → Calls Try.prog 33 #[.slice A n c, .slice B m d, .int .i64 top] w (SPost bs2 rs2 ok w)) :
    Calls Try.prog 7 #[.slice A n c, .slice B m d, .int .i64 top] w fun e w' => e = .returned (.bool true) ∧ Below w.heap.size w w' := by
  have hz1 : ¬ ((1 : Int) + n + m < 0) := by omega
  have hz2 : ¬ ((1 : Int) + bs2.length + rs2.length < 0) := by omega
  have e1 : n = bs.length := by rw [← valsI_len, h1.len]
  have e2 : m = us.length := by rw [← valsI_len, h2.len]
  subst e1
  subst e2
  have HA := Lib.hid h1
  have HB := Lib.hid h2
  have SP := Lib.hid hsp
  have IM := Lib.hid him
  clear h1 h2 hsp him
  go_enter Try.func7, Try.ntmps7
  go_wp2_with fail
  refine (to1 A _ c bs _ (by exact HA.out) ln).mono ?_
  rintro e w1 ⟨g1, rfl, hk1, o1, _, _⟩
  have K1 := Lib.hid hk1
  have O1 := Lib.hid o1
  clear hk1 o1
  go_wp2_with fail
  refine (to1 B _ d us _ (by exact HB.out.kp K1.out) lm).mono ?_
  rintro e w2 ⟨g2, rfl, hk2, o2, _, _⟩
  have K2 := Lib.hid (K1.out.tr hk2)
  have O12 := Lib.hid (O1.out.kp0 hk2)
  have O2 := Lib.hid o2
  clear hk2 o2 O1 K1
  go_wp2_with fail
  refine (SP.out _ _ _ _ _ (by exact own_sl O12.out) (by exact own_sl O2.out)).mono ?_
  rintro e w3 ⟨A1, k1, B1, k2, rfl, hk3, o3⟩
  have hb3 := Bx.new w3 27 A1 bs2.length k1 B1 rs2.length k2
  have hk3' := (Kp.refl w3).alloc (.cells #[.slice A1 bs2.length k1, .slice B1 rs2.length k2] 27)
  have K3 := Lib.hid ((K2.out.tr hk3).tr hk3')
  have R3 := Lib.hid (show ∀ k ∈ bl A1 B1, k < w3.heap.size from fun k hk => (o3.lt k hk).2)
  have O3 := Lib.hid (o3.kp0 hk3')
  have Q3 := Lib.hid hb3
  have Z3 := Lib.hid (show w.heap.size ≤ w3.heap.size from (K2.out.tr hk3).size)
  clear hk3 hk3' o3 hb3 K2 O12 O2
  go_wp2_with fail
  refine (to1 A _ c bs _ (by exact HA.out.kp K3.out) ln).mono ?_
  rintro e w4 ⟨g9, rfl, hk4, o4, hg9, hg9'⟩
  have K4 := Lib.hid (K3.out.tr hk4)
  have Q4 := Lib.hid (Q3.out.kp hk4)
  have O4 := Lib.hid (O3.out.kp0 hk4)
  have X4 := Lib.hid o4
  have Z9 := Lib.hid (show w3.heap.size + 1 ≤ g9 ∧ g9 < w4.heap.size from ⟨by simpa using hg9, hg9'⟩)
  clear hk4 o4 hg9 hg9' K3 Q3 O3
  go_wp2_with fail
  refine (to1 B _ d us _ (by exact HB.out.kp K4.out) lm).mono ?_
  rintro e w5 ⟨g10, rfl, hk5, o5, hg10, hg10'⟩
  have K5 := Lib.hid (K4.out.tr hk5)
  have Q5 := Lib.hid (Q4.out.kp hk5)
  have O5 := Lib.hid (O4.out.kp0 hk5)
  have X5 := Lib.hid (X4.out.kp0 hk5)
  have Y5 := Lib.hid o5
  have Z10 := Lib.hid (show w4.heap.size ≤ g10 ∧ g10 < w5.heap.size from ⟨hg10, hg10'⟩)
  have Z5 := Lib.hid hk5.size
  clear hk5 o5 hg10 hg10' K4 Q4 O4 X4
  go_wp2_with fail
  refine (IM.out _ _ _ _ _ (by exact own_sl X5.out) (by exact own_sl Y5.out)).mono ?_
  rintro e w6 ⟨A2, k3, B2, k4, rfl, hk6, o6⟩
  have hb6 := Bx.new w6 27 A2 bs2.length k3 B2 rs2.length k4
  have hk6' := (Kp.refl w6).alloc (.cells #[.slice A2 bs2.length k3, .slice B2 rs2.length k4] 27)
  have K6 := Lib.hid ((K5.out.tr hk6).tr hk6')
  have Q6 := Lib.hid ((Q5.out.kp hk6).kp hk6')
  have O6 := Lib.hid ((O5.out.kp0 hk6).kp0 hk6')
  have X6 := Lib.hid ((X5.out.kp0 hk6).kp0 hk6')
  have Y6 := Lib.hid ((Y5.out.kp0 hk6).kp0 hk6')
  have RG := Lib.hid (show ∀ k ∈ bl A2 B2, w5.heap.size ≤ k ∧ k < w6.heap.size from fun k hk => o6.lt k hk)
  have G6 := Lib.hid (o6.kp0 hk6')
  have V6 := Lib.hid hb6
  have Z6 := Lib.hid (show w5.heap.size ≤ w6.heap.size from hk6.size)
  have c0 := V6.out.c0
  have c1 := V6.out.c1
  have c2 := Q6.out.c0
  have c3 := Q6.out.c1
  clear hk6 hk6' o6 hb6 K5 Q5 O5 X5 Y5
  go_wp2_with fail
  refine (same_law _ _ _ bs2 _ _ _ rs2 _ _ _ bs2 _ _ _ rs2 _ (by exact G6.out.sl1) (by exact G6.out.sl2) (by exact O6.out.sl1) (by exact O6.out.sl2) l3 l4 l3 l4).mono ?_
  rw [eqS_refl]
  rintro e w7 ⟨rfl, hk7⟩
  have K7 := Lib.hid (K6.out.tr hk7)
  have Q7 := Lib.hid (Q6.out.kp hk7)
  have V7 := Lib.hid (V6.out.kp hk7)
  have O7 := Lib.hid (O6.out.kp0 hk7)
  have X7 := Lib.hid (X6.out.kp0 hk7)
  have Y7 := Lib.hid (Y6.out.kp0 hk7)
  have G7 := Lib.hid (G6.out.kp0 hk7)
  clear hk7 K6 Q6 V6 O6 X6 Y6 G6 c0 c1 c2 c3
  go_wp2_with fail
  refine (to1 A _ c bs _ (by exact HA.out.kp K7.out) ln).mono ?_
  rintro e w8 ⟨g11, rfl, hk8, o8, _, _⟩
  have K8 := Lib.hid (K7.out.tr hk8)
  have Q8 := Lib.hid (Q7.out.kp hk8)
  have V8 := Lib.hid (V7.out.kp hk8)
  have O8 := Lib.hid (O7.out.kp0 hk8)
  have X8 := Lib.hid (X7.out.kp0 hk8)
  have Y8 := Lib.hid (Y7.out.kp0 hk8)
  have G8 := Lib.hid (G7.out.kp0 hk8)
  have C8 := Lib.hid o8
  clear hk8 o8 K7 Q7 V7 O7 X7 Y7 G7
  go_wp2_with fail
  refine (eq_law _ _ _ bs _ _ _ bs _ (by exact own_sl X8.out) (by exact own_sl C8.out) ln ln).mono ?_
  rw [eqL_refl]
  rintro e w9 ⟨rfl, q9, rfl⟩
  have K9 := Lib.hid (K8.out.tr (Kp.of_draw q9))
  have Q9 := Lib.hid (Q8.out.kp (Kp.of_draw q9))
  have V9 := Lib.hid (V8.out.kp (Kp.of_draw q9))
  have O9 := Lib.hid (O8.out.kp0 (Kp.of_draw q9))
  have X9 := Lib.hid (X8.out.kp0 (Kp.of_draw q9))
  have Y9 := Lib.hid (Y8.out.kp0 (Kp.of_draw q9))
  have G9 := Lib.hid (G8.out.kp0 (Kp.of_draw q9))
  clear K8 Q8 V8 O8 X8 Y8 G8 C8
  generalize w8.drewN q9 = w9 at *
  go_wp2_with fail
  refine (to1 B _ d us _ (by exact HB.out.kp K9.out) lm).mono ?_
  rintro e w10 ⟨g12, rfl, hk10, o10, _, _⟩
  have K10 := Lib.hid (K9.out.tr hk10)
  have Q10 := Lib.hid (Q9.out.kp hk10)
  have V10 := Lib.hid (V9.out.kp hk10)
  have O10 := Lib.hid (O9.out.kp0 hk10)
  have X10 := Lib.hid (X9.out.kp0 hk10)
  have Y10 := Lib.hid (Y9.out.kp0 hk10)
  have G10 := Lib.hid (G9.out.kp0 hk10)
  have C10 := Lib.hid o10
  clear hk10 o10 K9 Q9 V9 O9 X9 Y9 G9
  go_wp2_with fail
  refine (eq_law _ _ _ us _ _ _ us _ (by exact own_sl Y10.out) (by exact own_sl C10.out) lm lm).mono ?_
  rw [eqL_refl]
  rintro e w11 ⟨rfl, q11, rfl⟩
  have K11 := Lib.hid (K10.out.tr (Kp.of_draw q11))
  have Q11 := Lib.hid (Q10.out.kp (Kp.of_draw q11))
  have V11 := Lib.hid (V10.out.kp (Kp.of_draw q11))
  have O11 := Lib.hid (O10.out.kp0 (Kp.of_draw q11))
  have X11 := Lib.hid (X10.out.kp0 (Kp.of_draw q11))
  have Y11 := Lib.hid (Y10.out.kp0 (Kp.of_draw q11))
  have G11 := Lib.hid (G10.out.kp0 (Kp.of_draw q11))
  clear K10 Q10 V10 O10 X10 Y10 G10 C10
  generalize w10.drewN q11 = w11 at *
  go_wp2_with fail
  refine (mark1 (B := 0) _ _ _ bs 1 _ (by exact X11.out.mono (Nat.zero_le _)) ln (by omega) (by omega)).mono ?_
  rintro e w12 ⟨rfl, hk12, _⟩
  have hk12' : Kp [g9] w11 w12 := by simpa [Value.ownBlock] using hk12
  have K12 := Lib.hid (show Kp [] w w12 from ((K11.out.trans hk12').mono (by intro t ht hlt; have ht' : t = g9 := (by simpa using ht); have := Z9.out; have := Z3.out; omega)))
  have Q12 := Lib.hid (Q11.out.keep hk12' (by intro hh; have hh' : w3.heap.size = g9 := (by simpa using hh); have := Z9.out; omega))
  have V12 := Lib.hid (V11.out.keep hk12' (by intro hh; have hh' : w6.heap.size = g9 := (by simpa using hh); have := Z9.out; have := Z5.out; have := Z6.out; omega))
  have O12 := Lib.hid (O11.out.kp hk12' (by intro k hk hh; have hh' : k = g9 := (by simpa using hh); have := R3.out _ hk; have := Z9.out; omega))
  have G12 := Lib.hid (G11.out.kp hk12' (by intro k hk hh; have hh' : k = g9 := (by simpa using hh); have := RG.out _ hk; have := Z9.out; have := Z5.out; omega))
  have Y12 := Lib.hid (Y11.out.kp hk12' (by intro k hk hh; have hh' : k = g9 := (by simpa using hh); have hk' : g10 = k := (by simpa [Value.ownBlock] using hk); have := Z9.out; have := Z10.out; omega))
  clear hk12 hk12' K11 Q11 V11 O11 X11 Y11 G11
  go_wp2_with fail
  refine (mark1 (B := 0) _ _ _ us (1 + (bs.length : Int)) _ (by exact Y12.out.mono (Nat.zero_le _)) lm (by omega) (by omega)).mono ?_
  rintro e w13 ⟨rfl, hk13, _⟩
  have hk13' : Kp [g10] w12 w13 := by simpa [Value.ownBlock] using hk13
  have K13 := Lib.hid (show Kp [] w w13 from ((K12.out.trans hk13').mono (by intro t ht hlt; have ht' : t = g10 := (by simpa using ht); have := Z9.out; have := Z10.out; have := Z3.out; omega)))
  have Q13 := Lib.hid (Q12.out.keep hk13' (by intro hh; have hh' : w3.heap.size = g10 := (by simpa using hh); have := Z9.out; have := Z10.out; omega))
  have V13 := Lib.hid (V12.out.keep hk13' (by intro hh; have hh' : w6.heap.size = g10 := (by simpa using hh); have := Z10.out; have := Z6.out; omega))
  have O13 := Lib.hid (O12.out.kp hk13' (by intro k hk hh; have hh' : k = g10 := (by simpa using hh); have := R3.out _ hk; have := Z9.out; have := Z10.out; omega))
  have G13 := Lib.hid (G12.out.kp hk13' (by intro k hk hh; have hh' : k = g10 := (by simpa using hh); have := RG.out _ hk; have := Z10.out; omega))
  have c0 := V13.out.c0
  have c1 := V13.out.c1
  have c2 := Q13.out.c0
  have c3 := Q13.out.c1
  clear hk13 hk13' K12 Q12 V12 O12 Y12 G12
  go_wp2_with fail
  refine (same_law _ _ _ bs2 _ _ _ rs2 _ _ _ bs2 _ _ _ rs2 _ (by exact G13.out.sl1) (by exact G13.out.sl2) (by exact O13.out.sl1) (by exact O13.out.sl2) l3 l4 l3 l4).mono ?_
  rw [eqS_refl]
  rintro e w14 ⟨rfl, hk14⟩
  have K14 := Lib.hid (K13.out.tr hk14)
  have Q14 := Lib.hid (Q13.out.kp hk14)
  have V14 := Lib.hid (V13.out.kp hk14)
  have O14 := Lib.hid (O13.out.kp0 hk14)
  have G14 := Lib.hid (G13.out.kp0 hk14)
  have c0' := V14.out.c0
  have c1' := V14.out.c1
  clear hk14 K13 Q13 V13 O13 G13 c0 c1 c2 c3
  go_wp2_with fail
  refine (markS (Bd := 0) _ _ _ _ _ _ bs2 rs2 1 _ (by exact G14.out.mono (Nat.zero_le _)) l3 l4 (by omega) (by omega)).mono ?_
  rintro e w15 ⟨rfl, hk15, og⟩
  have K15 := Lib.hid (show Kp [] w w15 from ((K14.out.trans hk15).mono (by intro t ht hlt; have := RG.out t (by simpa using ht); have := Z3.out; have := Z9.out; have := Z5.out; omega)))
  have Q15 := Lib.hid (Q14.out.keep hk15 (by intro hh; have := RG.out _ hh; have := Z9.out; have := Z5.out; omega))
  have V15 := Lib.hid (V14.out.keep hk15 (by intro hh; have := RG.out _ hh; omega))
  have O15 := Lib.hid (O14.out.kp hk15 (by intro k hk hh; have := RG.out _ hh; have := R3.out _ hk; have := Z9.out; have := Z5.out; omega))
  have G15 := Lib.hid og
  have c0 := V15.out.c0
  have c1 := V15.out.c1
  clear hk15 og K14 Q14 V14 O14 G14 c0' c1'
  go_wp2_with fail
  refine (heldS _ _ _ _ _ _ 1 _ (by exact G15.out.sl1) (by exact G15.out.sl2) l3 l4 (by omega) (by omega)).mono ?_
  rintro e w16 ⟨rfl, hk16⟩
  have K16 := Lib.hid (K15.out.tr hk16)
  have Q16 := Lib.hid (Q15.out.kp hk16)
  have V16 := Lib.hid (V15.out.kp hk16)
  have O16 := Lib.hid (O15.out.kp0 hk16)
  have G16 := Lib.hid (G15.out.kp0 hk16)
  clear hk16 K15 Q15 V15 O15 G15 c0 c1
  go_wp2_with fail
  refine (to1 A _ c bs _ (by exact HA.out.kp K16.out) ln).mono ?_
  rintro e w17 ⟨g13, rfl, hk17, o17, _, _⟩
  have K17 := Lib.hid (K16.out.tr hk17)
  have Q17 := Lib.hid (Q16.out.kp hk17)
  have V17 := Lib.hid (V16.out.kp hk17)
  have O17 := Lib.hid (O16.out.kp0 hk17)
  have G17 := Lib.hid (G16.out.kp0 hk17)
  have X17 := Lib.hid o17
  clear hk17 o17 K16 Q16 V16 O16 G16
  go_wp2_with fail
  refine (to1 B _ d us _ (by exact HB.out.kp K17.out) lm).mono ?_
  rintro e w18 ⟨g14, rfl, hk18, o18, _, _⟩
  have K18 := Lib.hid (K17.out.tr hk18)
  have Q18 := Lib.hid (Q17.out.kp hk18)
  have V18 := Lib.hid (V17.out.kp hk18)
  have O18 := Lib.hid (O17.out.kp0 hk18)
  have G18 := Lib.hid (G17.out.kp0 hk18)
  have X18 := Lib.hid (X17.out.kp0 hk18)
  have Y18 := Lib.hid o18
  clear hk18 o18 K17 Q17 V17 O17 G17 X17
  go_wp2_with fail
  refine (IM.out _ _ _ _ _ (by exact own_sl X18.out) (by exact own_sl Y18.out)).mono ?_
  rintro e w19 ⟨A3, k5, B3, k6, rfl, hk19, o19⟩
  have hb19 := Bx.new w19 27 A3 bs2.length k5 B3 rs2.length k6
  have hk19' := (Kp.refl w19).alloc (.cells #[.slice A3 bs2.length k5, .slice B3 rs2.length k6] 27)
  have K19 := Lib.hid ((K18.out.tr hk19).tr hk19')
  have Q19 := Lib.hid ((Q18.out.kp hk19).kp hk19')
  have V19 := Lib.hid ((V18.out.kp hk19).kp hk19')
  have O19 := Lib.hid ((O18.out.kp0 hk19).kp0 hk19')
  have G19 := Lib.hid ((G18.out.kp0 hk19).kp0 hk19')
  have N19 := Lib.hid (o19.kp0 hk19')
  have c0 := hb19.c0
  have c1 := hb19.c1
  have c2 := Q19.out.c0
  have c3 := Q19.out.c1
  clear hk19 hk19' o19 hb19 K18 Q18 V18 O18 G18 X18 Y18
  go_wp2_with fail
  refine (same_law _ _ _ bs2 _ _ _ rs2 _ _ _ bs2 _ _ _ rs2 _ (by exact N19.out.sl1) (by exact N19.out.sl2) (by exact O19.out.sl1) (by exact O19.out.sl2) l3 l4 l3 l4).mono ?_
  rw [eqS_refl]
  rintro e w20 ⟨rfl, hk20⟩
  have K20 := Lib.hid (K19.out.tr hk20)
  have V20 := Lib.hid (V19.out.kp hk20)
  have G20 := Lib.hid (G19.out.kp0 hk20)
  have c0' := V20.out.c0
  have c1' := V20.out.c1
  clear hk20 K19 Q19 V19 O19 G19 N19 c0 c1 c2 c3
  go_wp2_with fail
  refine (heldS _ _ _ _ _ _ 1 _ (by exact G20.out.sl1) (by exact G20.out.sl2) l3 l4 (by omega) (by omega)).mono ?_
  rintro e w21 ⟨rfl, hk21⟩
  have K21 := Lib.hid (K20.out.tr hk21)
  clear hk21 K20 V20 G20 c0' c1'
  go_wp2_with fail
  go_ret
  exact ⟨rfl, K21.out.below0⟩

set_option maxHeartbeats 400000 in
theorem walk (A : Option Addr) (n c : Nat) (bs : List Int) (B : Option Addr) (m d : Nat) (us : List Int) (top : Int) (w : World) (h1 : Sl w A n (valsI bs)) (hn : n ≤ 9223372036854775807) (_ : ∀ z ∈ bs, (Lit.int .i64 z).wf = true) (h2 : Sl w B m (valsI us)) (hm : m ≤ 9223372036854775807) (_ : ∀ z ∈ us, (Lit.int .i64 z).wf = true) (_ : (Lit.int .i64 top).wf = true) :
    Calls Try.prog 7 #[.slice A n c, .slice B m d, .int .i64 top] w fun e w' => e = .returned (.bool true) ∧ Below w.heap.size w w' := by
  by_cases hsz : (n : Int) ≤ 1048576
  · by_cases hsz2 : (m : Int) ≤ 1048576
    · have ln : n ≤ 1048576 := by omega
      have lm : m ≤ 1048576 := by omega
      have e1 : n = bs.length := by rw [← valsI_len, h1.len]
      exact walk_of A n c bs B m d us top w h1 h2 ln lm (whenP (SfOk bs us top) bs) (whenP (SfOk bs us top) (slps bs us bs.length ++ [top])) (okb (SfOk bs us top)) (whenP_len (by omega)) (whenP_len (by have := slps_len bs us bs.length; simp [this]; omega))
        (fun A c B d w h h2 => sof_spec A n c bs B m d us top w h h2 ln lm) (fun A c B d w h h2 => sof_impl A n c bs B m d us top w h h2 ln lm)
    · have hg : (1048576 : Int) < (m : Int) := by omega
      have hg2 : ¬ ((1048576 : Int) < (n : Int)) := by omega
      clear h1 h2
      go_enter Try.func7, Try.ntmps7
      go_wp2
      go_ret
      exact ⟨rfl, (Kp.refl w).below0⟩
  · have hg : (1048576 : Int) < (n : Int) := by omega
    clear h1 h2
    go_enter Try.func7, Try.ntmps7
    go_wp2
    go_ret
    exact ⟨rfl, (Kp.refl w).below0⟩
end Go.Proofs.Ytloffnamjgnkhaa.fnExactScaleOf
