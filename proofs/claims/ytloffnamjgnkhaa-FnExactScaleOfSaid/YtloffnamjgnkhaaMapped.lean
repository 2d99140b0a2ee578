/-
  A slice mapped by each of the closures. Conditions: the slice reads as a list that is not too long, the closure answers for each element.
-/
import Derived.Test.YtloffnamjgnkhaaGive
namespace Go.Proofs.Ytloffnamjgnkhaa
open Go.RowKit Mem

theorem run_app_x {Bd : Nat} {A : Option Addr} {n c : Nat} {xs : List Int} {x : Int} {w : World} (h : Own Bd w (.slice A n c) xs) (hB : Bd ≤ w.heap.size) (hn : n ≤ 1048576) :
    ∃ g cap w', (Builtin.append_ #[22, 22] 22 #[.slice A n c, .slice (some ⟨w.heap.size, 0, none⟩) 1 1]).run Try.prog (w.alloc (.cells #[.int .i64 x] 2)) = .ok (.slice (some ⟨g, 0, none⟩) (n + 1) cap) w' ∧
      Kp (A.map (·.block)).toList (w.alloc (.cells #[.int .i64 x] 2)) w' ∧ (A.map (·.block) = some g ∨ g = w.heap.size + 1) ∧ Own Bd w' (.slice (some ⟨g, 0, none⟩) (n + 1) cap) (xs ++ [x]) := by
  have h0 : Ch w.heap.size Bd A n c xs x false false undef undef w := ⟨h, fun h => (by cases h), fun h => (by cases h)⟩
  obtain ⟨g, cap, w', hr, hk, hat, hlt, ho⟩ := run_app1 (h0.build (Nat.le_refl _) 2) (by simp; omega) hn
  exact ⟨g, cap, w', hr, hk, by simpa using hat, ho⟩

set_option maxRecDepth 100000 in
set_option maxHeartbeats 1000000 in
theorem mapped_MixScale (g : Int → Int) (A : Option Addr) (n c : Nat) (zs : List Int) (p : Nat) (w : World) (h : Sl w A n (valsI zs)) (hn : n ≤ 1048576)
    (hf : ∀ (x : Int), x ∈ zs → ∀ wr, Kp [] w wr → Calls Try.prog 80 #[.int .i64 x, .pointer (some ⟨p, 0, none⟩)] wr fun e w' => e = .returned (.int .i64 (g x)) ∧ Kp [] wr w') :
    Calls Try.prog 79 #[.slice A n c, .func (.func 80) #[] #[.pointer (some ⟨p, 0, none⟩)]] w fun e w' => ∃ B d, e = .returned (.slice B n d) ∧ Kp [] w w' ∧ Own w.heap.size w' (.slice B n d) (zs.map g) := by
  have HA := Lib.hid h
  have HL := Lib.hid (show zs.length = n by rw [← valsI_len, h.len])
  have HF := Lib.hid hf
  have HO := Lib.hid (own_empty (H := w.heap.size) w (Nat.le_refl _))
  clear h hf
  go_enter Try.func79, Try.ntmps79
  go_wp2_with fail
  go_loopw [11, 5] (fun i o wr => ∃ (k : Nat) (B : Option Addr) (d : Nat), k ≤ n ∧ i = .int .i64 k ∧ o = .slice B k d ∧ Hid (Kp [] w wr) ∧ Hid (Own w.heap.size wr (.slice B k d) ((zs.take k).map g))) (fun i _ _ => n - (intOf i).toNat)
  case atStart => exact ⟨0, _, _, Nat.zero_le _, rfl, rfl, Lib.hid ((Kp.refl w).alloc _), by simpa using HO⟩
  case round =>
    obtain ⟨k, B, d, hk, rfl, rfl, HK, HD⟩ := hrel
    by_cases hlt : k < n
    · obtain ⟨b, off, x, eA, hb, HX, hcx⟩ := slI_at HA.out hlt
      replace hcx := (HK.out.cell (p := ⟨b, off + k, none⟩) hb (by simp)).trans hcx
      subst eA
      have HXm := Lib.hid (show x ∈ zs from List.mem_of_getElem? HX.out)
      go_wp2_with fail
      refine (HF.out x HXm.out _ HK.out).mono ?_
      rintro e w5 ⟨rfl, hk5⟩
      obtain ⟨g2, cap2, w6, hr, hk6, hat, ho6⟩ := run_app_x (x := g x) (HD.out.kp0 hk5) (Nat.le_trans HK.out.size hk5.size) (by omega)
      have K6 := Lib.hid ((HK.out.tr hk5).later (((Kp.refl w5).alloc (.cells #[.int .i64 (g x)] 2)).trans hk6) (by
        intro t ht
        have ht' : (Value.slice B k d).ownBlock = some t := by rw [blk0]; simpa using ht
        exact (HD.out.lt t ht').1))
      have O6 := Lib.hid (show Own w.heap.size w6 (.slice (some ⟨g2, 0, none⟩) (k + 1) cap2) ((zs.take (k + 1)).map g) by
        rw [List.take_add_one, HX.out]
        simpa using ho6)
      clear hk5 hk6 hat ho6 hcx
      go_wp2_with (at_builtin; refine wpList_appE (by rfl) _ _ 22 (by rfl) (by exact hr) ?_)
      go_wp2_with fail
      go_roundw
      case rel => exact ⟨k + 1, _, _, by omega, by go_num, by simp, K6, O6⟩
      case measure => simp [intOf]; omega
    · obtain rfl : n = k := by omega
      have OO := Lib.hid (show Own w.heap.size wr (.slice B n d) (zs.map g) by have := HD.out; rwa [List.take_of_length_le (by rw [HL.out]; exact Nat.le_refl _)] at this)
      go_wp2_with fail
      go_ret
      exact ⟨_, _, rfl, HK.out, OO.out⟩

set_option maxRecDepth 100000 in
set_option maxHeartbeats 1000000 in
theorem mapped_StretchScale (g : Int → Int) (A : Option Addr) (n c : Nat) (zs : List Int) (p q : Nat) (w : World) (h : Sl w A n (valsI zs)) (hn : n ≤ 1048576)
    (hf : ∀ (x : Int), x ∈ zs → ∀ wr, Kp [] w wr → Calls Try.prog 81 #[.int .i64 x, .pointer (some ⟨p, 0, none⟩), .pointer (some ⟨q, 0, none⟩)] wr fun e w' => e = .returned (.int .i64 (g x)) ∧ Kp [] wr w') :
    Calls Try.prog 79 #[.slice A n c, .func (.func 81) #[] #[.pointer (some ⟨p, 0, none⟩), .pointer (some ⟨q, 0, none⟩)]] w fun e w' => ∃ B d, e = .returned (.slice B n d) ∧ Kp [] w w' ∧ Own w.heap.size w' (.slice B n d) (zs.map g) := by
  have HA := Lib.hid h
  have HL := Lib.hid (show zs.length = n by rw [← valsI_len, h.len])
  have HF := Lib.hid hf
  have HO := Lib.hid (own_empty (H := w.heap.size) w (Nat.le_refl _))
  clear h hf
  go_enter Try.func79, Try.ntmps79
  go_wp2_with fail
  go_loopw [11, 5] (fun i o wr => ∃ (k : Nat) (B : Option Addr) (d : Nat), k ≤ n ∧ i = .int .i64 k ∧ o = .slice B k d ∧ Hid (Kp [] w wr) ∧ Hid (Own w.heap.size wr (.slice B k d) ((zs.take k).map g))) (fun i _ _ => n - (intOf i).toNat)
  case atStart => exact ⟨0, _, _, Nat.zero_le _, rfl, rfl, Lib.hid ((Kp.refl w).alloc _), by simpa using HO⟩
  case round =>
    obtain ⟨k, B, d, hk, rfl, rfl, HK, HD⟩ := hrel
    by_cases hlt : k < n
    · obtain ⟨b, off, x, eA, hb, HX, hcx⟩ := slI_at HA.out hlt
      replace hcx := (HK.out.cell (p := ⟨b, off + k, none⟩) hb (by simp)).trans hcx
      subst eA
      have HXm := Lib.hid (show x ∈ zs from List.mem_of_getElem? HX.out)
      go_wp2_with fail
      refine (HF.out x HXm.out _ HK.out).mono ?_
      rintro e w5 ⟨rfl, hk5⟩
      obtain ⟨g2, cap2, w6, hr, hk6, hat, ho6⟩ := run_app_x (x := g x) (HD.out.kp0 hk5) (Nat.le_trans HK.out.size hk5.size) (by omega)
      have K6 := Lib.hid ((HK.out.tr hk5).later (((Kp.refl w5).alloc (.cells #[.int .i64 (g x)] 2)).trans hk6) (by
        intro t ht
        have ht' : (Value.slice B k d).ownBlock = some t := by rw [blk0]; simpa using ht
        exact (HD.out.lt t ht').1))
      have O6 := Lib.hid (show Own w.heap.size w6 (.slice (some ⟨g2, 0, none⟩) (k + 1) cap2) ((zs.take (k + 1)).map g) by
        rw [List.take_add_one, HX.out]
        simpa using ho6)
      clear hk5 hk6 hat ho6 hcx
      go_wp2_with (at_builtin; refine wpList_appE (by rfl) _ _ 22 (by rfl) (by exact hr) ?_)
      go_wp2_with fail
      go_roundw
      case rel => exact ⟨k + 1, _, _, by omega, by go_num, by simp, K6, O6⟩
      case measure => simp [intOf]; omega
    · obtain rfl : n = k := by omega
      have OO := Lib.hid (show Own w.heap.size wr (.slice B n d) (zs.map g) by have := HD.out; rwa [List.take_of_length_le (by rw [HL.out]; exact Nat.le_refl _)] at this)
      go_wp2_with fail
      go_ret
      exact ⟨_, _, rfl, HK.out, OO.out⟩

set_option maxRecDepth 100000 in
set_option maxHeartbeats 1000000 in
theorem mapped_IndexScale (g : Int → Int) (A : Option Addr) (n c : Nat) (zs : List Int) (p q : Nat) (w : World) (h : Sl w A n (valsI zs)) (hn : n ≤ 1048576)
    (hf : ∀ (x : Int), x ∈ zs → ∀ wr, Kp [] w wr → Calls Try.prog 96 #[.int .i64 x, .pointer (some ⟨p, 0, none⟩), .pointer (some ⟨q, 0, none⟩)] wr fun e w' => e = .returned (.int .i64 (g x)) ∧ Kp [] wr w') :
    Calls Try.prog 79 #[.slice A n c, .func (.func 96) #[] #[.pointer (some ⟨p, 0, none⟩), .pointer (some ⟨q, 0, none⟩)]] w fun e w' => ∃ B d, e = .returned (.slice B n d) ∧ Kp [] w w' ∧ Own w.heap.size w' (.slice B n d) (zs.map g) := by
  have HA := Lib.hid h
  have HL := Lib.hid (show zs.length = n by rw [← valsI_len, h.len])
  have HF := Lib.hid hf
  have HO := Lib.hid (own_empty (H := w.heap.size) w (Nat.le_refl _))
  clear h hf
  go_enter Try.func79, Try.ntmps79
  go_wp2_with fail
  go_loopw [11, 5] (fun i o wr => ∃ (k : Nat) (B : Option Addr) (d : Nat), k ≤ n ∧ i = .int .i64 k ∧ o = .slice B k d ∧ Hid (Kp [] w wr) ∧ Hid (Own w.heap.size wr (.slice B k d) ((zs.take k).map g))) (fun i _ _ => n - (intOf i).toNat)
  case atStart => exact ⟨0, _, _, Nat.zero_le _, rfl, rfl, Lib.hid ((Kp.refl w).alloc _), by simpa using HO⟩
  case round =>
    obtain ⟨k, B, d, hk, rfl, rfl, HK, HD⟩ := hrel
    by_cases hlt : k < n
    · obtain ⟨b, off, x, eA, hb, HX, hcx⟩ := slI_at HA.out hlt
      replace hcx := (HK.out.cell (p := ⟨b, off + k, none⟩) hb (by simp)).trans hcx
      subst eA
      have HXm := Lib.hid (show x ∈ zs from List.mem_of_getElem? HX.out)
      go_wp2_with fail
      refine (HF.out x HXm.out _ HK.out).mono ?_
      rintro e w5 ⟨rfl, hk5⟩
      obtain ⟨g2, cap2, w6, hr, hk6, hat, ho6⟩ := run_app_x (x := g x) (HD.out.kp0 hk5) (Nat.le_trans HK.out.size hk5.size) (by omega)
      have K6 := Lib.hid ((HK.out.tr hk5).later (((Kp.refl w5).alloc (.cells #[.int .i64 (g x)] 2)).trans hk6) (by
        intro t ht
        have ht' : (Value.slice B k d).ownBlock = some t := by rw [blk0]; simpa using ht
        exact (HD.out.lt t ht').1))
      have O6 := Lib.hid (show Own w.heap.size w6 (.slice (some ⟨g2, 0, none⟩) (k + 1) cap2) ((zs.take (k + 1)).map g) by
        rw [List.take_add_one, HX.out]
        simpa using ho6)
      clear hk5 hk6 hat ho6 hcx
      go_wp2_with (at_builtin; refine wpList_appE (by rfl) _ _ 22 (by rfl) (by exact hr) ?_)
      go_wp2_with fail
      go_roundw
      case rel => exact ⟨k + 1, _, _, by omega, by go_num, by simp, K6, O6⟩
      case measure => simp [intOf]; omega
    · obtain rfl : n = k := by omega
      have OO := Lib.hid (show Own w.heap.size wr (.slice B n d) (zs.map g) by have := HD.out; rwa [List.take_of_length_le (by rw [HL.out]; exact Nat.le_refl _)] at this)
      go_wp2_with fail
      go_ret
      exact ⟨_, _, rfl, HK.out, OO.out⟩
end Go.Proofs.Ytloffnamjgnkhaa
