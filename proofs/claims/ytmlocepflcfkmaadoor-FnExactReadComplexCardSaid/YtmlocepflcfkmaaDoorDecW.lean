/-
  A number in decimal: the reference's walk. Conditions: the number is one of 64 bits.
-/
import Derived.Test.YtmlocepflcfkmaaDoorDec
namespace Go.Proofs.YtmlocepflcfkmaaDoor
set_option linter.unusedVariables false
set_option linter.unusedSimpArgs false
open Go.RowKit Mem Dec

theorem ret_str {a b : List UInt8} (h : a = b) : Ending.returned (.string ⟨a.toArray⟩) = .returned (.string ⟨b.toArray⟩) := by rw [h]

set_option maxRecDepth 100000 in
set_option maxHeartbeats 4000000 in
theorem dec_pos (m : Nat) (hm : m ≤ 9223372036854775807) (W : World) : Calls Tryd.prog 42 #[.int .i64 (m : Int)] W fun e w' => e = .returned (.string ⟨(Lib.decDigits m).toArray⟩) ∧ Kp [] W w' := by
  obtain ⟨i0, hi, hz0, hz1, hz2⟩ := info_parts info8
  have HM := Lib.hid hm
  clear hm
  go_enter Tryd.func42, Tryd.ntmps42
  go_wp2
  go_loopw [3, 4] (fun o r wr => ∃ (k : Nat) (L : List UInt8) (g cap : Nat), o = .slice (some ⟨g, 0, none⟩) L.length cap ∧ r = .int .i64 (k : Int) ∧ k ≤ m ∧ DS W.heap.size W wr m k L g cap) (fun o _ _ => 20 - lenOf o)
  case atStart => exact ⟨m, [], _, _, rfl, rfl, Nat.le_refl _, ⟨St.zero m, Room.zero (by have := HM.out; omega), World.ownsRow_made W #[] 0 (Nat.le_refl _) (by decide) rfl, (Kp.refl W).alloc _, rfl⟩⟩
  case round =>
    obtain ⟨k, L, g, cap, rfl, rfl, hkm, HD⟩ := hrel
    have H := Lib.hid HD
    have h20 := HD.room.1
    have hsz := HD.kp.size
    clear HD
    have hk9 : (k : Int) ≤ 9223372036854775807 := by have := HM.out; omega
    have HK := Lib.hid hkm
    clear hkm
    have hp0 : 0 ≤ (k : Int) % 10 := by omega
    have hp1 : (k : Int) % 10 < 10 := by omega
    have hp2 : decide ((k : Int) % 10 < 0) = false := by simp; omega
    by_cases hex : L.length = 0 ∨ k ≠ 0
    · have HX := Lib.hid (show L = [] ∨ k ≠ 0 from hex.imp List.length_eq_zero_iff.1 id)
      have HL20 := Lib.hid (H.out.room.next hex).2
      by_cases hL : L.length = 0
      · have hl : ((L.length : Int) == 0) = true := by simpa using hL
        clear hL hex
        go_wp2_with (at_builtin; refine wpList_app rfl _ _ 81 rfl W.heap.size 5 i0 (.int .u8 0) 1 1 Tryd.underlying81 hi hz0 hz1 hz2 rfl (by decide) (.slice (some ⟨wr.heap.size, 0, none⟩) 1 1) 1 [.int .u8 (48 + (k : Int) % 10)] rfl (owns_new wr [.int .u8 (48 + (k : Int) % 10)] 5 W.heap.size hsz (show 1 ≤ maxLen by decide)) ⟨g, 0, none⟩ L.length cap (bysV L) rfl (by simp [bysV_len]) (OwnB.cells (World.ownsRow.alloc H.out.own _)) (bysV_one L) (by omega) (by unfold maxLen; omega) (by omega) (by simp; omega) ?_; intro g2 cap2 w2 hown hgrow hat hlt hbg)
        have HN := Lib.hid (H.out.next (w1 := wr.alloc (.cells #[.int .u8 (48 + (k : Int) % 10)] 5)) (g2 := g2) (cap2 := cap2) HX.out (H.out.kp.alloc _) (by rw [show ((k % 10 : Nat) : Int) = (k : Int) % 10 by omega]; exact hown) hgrow (fun b hb => by simp [Value.ownBlock] at hb; omega))
        clear hown hgrow hat hlt hbg
        go_wp2
        go_roundw
        case rel => exact ⟨k / 10, dg k :: L, g2, cap2, by rw [List.length_cons, Nat.add_comm], by rw [show ((k / 10 : Nat) : Int) = (k : Int) / 10 by omega], by have := HK.out; omega, HN.out⟩
        case measure => have := HL20.out; simp [lenOf]; omega
      · have hl : ((L.length : Int) == 0) = false := by simpa using hL
        have hk2 : ((k : Int) != 0) = true := by simpa [hL] using hex
        clear hL hex
        go_wp2_with (at_builtin; refine wpList_app rfl _ _ 81 rfl W.heap.size 5 i0 (.int .u8 0) 1 1 Tryd.underlying81 hi hz0 hz1 hz2 rfl (by decide) (.slice (some ⟨wr.heap.size, 0, none⟩) 1 1) 1 [.int .u8 (48 + (k : Int) % 10)] rfl (owns_new wr [.int .u8 (48 + (k : Int) % 10)] 5 W.heap.size hsz (show 1 ≤ maxLen by decide)) ⟨g, 0, none⟩ L.length cap (bysV L) rfl (by simp [bysV_len]) (OwnB.cells (World.ownsRow.alloc H.out.own _)) (bysV_one L) (by omega) (by unfold maxLen; omega) (by omega) (by simp; omega) ?_; intro g2 cap2 w2 hown hgrow hat hlt hbg)
        have HN := Lib.hid (H.out.next (w1 := wr.alloc (.cells #[.int .u8 (48 + (k : Int) % 10)] 5)) (g2 := g2) (cap2 := cap2) HX.out (H.out.kp.alloc _) (by rw [show ((k % 10 : Nat) : Int) = (k : Int) % 10 by omega]; exact hown) hgrow (fun b hb => by simp [Value.ownBlock] at hb; omega))
        clear hown hgrow hat hlt hbg
        go_wp2
        go_roundw
        case rel => exact ⟨k / 10, dg k :: L, g2, cap2, by rw [List.length_cons, Nat.add_comm], by rw [show ((k / 10 : Nat) : Int) = (k : Int) / 10 by omega], by have := HK.out; omega, HN.out⟩
        case measure => have := HL20.out; simp [lenOf]; omega
    · have hL : ¬ L.length = 0 := fun h => hex (.inl h)
      have hk : k = 0 := by
        rcases Nat.eq_zero_or_pos k with h | h
        · exact h
        · exact absurd (.inr (by omega)) hex
      have hl : ((L.length : Int) == 0) = false := by simpa using hL
      have HE := Lib.hid (H.out.st.done (fun e => hL (by rw [e]; rfl)) hk)
      subst hk
      clear hex hL
      have hs := H.out.own.str
      go_wp2
      go_ret
      exact ⟨ret_str HE.out.symm, H.out.kp⟩

set_option maxRecDepth 100000 in
set_option maxHeartbeats 4000000 in
theorem dec_neg (m : Nat) (hm : m ≤ 9223372036854775808) (h0 : 0 < m) (W : World) : Calls Tryd.prog 42 #[.int .i64 (-(m : Int))] W fun e w' => e = .returned (.string ⟨(45 :: Lib.decDigits m).toArray⟩) ∧ Kp [] W w' := by
  obtain ⟨i0, hi, hz0, hz1, hz2⟩ := info_parts info8
  have HM := Lib.hid hm
  clear hm
  have hneg : decide (-(m : Int) < 0) = true := by simp; omega
  go_enter Tryd.func42, Tryd.ntmps42
  go_wp2
  go_loopw [3, 4] (fun o r wr => ∃ (k : Nat) (L : List UInt8) (g cap : Nat), o = .slice (some ⟨g, 0, none⟩) L.length cap ∧ r = .int .i64 (-(k : Int)) ∧ k ≤ m ∧ DS W.heap.size W wr m k L g cap) (fun o _ _ => 20 - lenOf o)
  case atStart => exact ⟨m, [], _, _, rfl, rfl, Nat.le_refl _, ⟨St.zero m, Room.zero (by have := HM.out; omega), World.ownsRow_made W #[] 0 (Nat.le_refl _) (by decide) rfl, (Kp.refl W).alloc _, rfl⟩⟩
  case round =>
    obtain ⟨k, L, g, cap, rfl, rfl, hkm, HD⟩ := hrel
    have H := Lib.hid HD
    have h20 := HD.room.1
    have hsz := HD.kp.size
    clear HD
    have hk9 : (k : Int) ≤ 9223372036854775808 := by have := HM.out; omega
    have HK := Lib.hid hkm
    clear hkm
    have hk0 : -9223372036854775808 ≤ -(k : Int) := by omega
    have ht : (-(k : Int)).tmod 10 = -((k % 10 : Nat) : Int) := by rw [Int.neg_tmod, Int.ofNat_tmod]; rfl
    have hq : (-(k : Int)).tdiv 10 = -((k / 10 : Nat) : Int) := by rw [Int.neg_tdiv, Int.ofNat_tdiv]; rfl
    obtain ⟨d, hd⟩ : ∃ d : Nat, k % 10 = d := ⟨_, rfl⟩
    have hd9 : (d : Int) ≤ 9 := by omega
    have HD := Lib.hid hd
    rw [hd] at ht
    clear hd
    by_cases hex : L.length = 0 ∨ k ≠ 0
    · have HX := Lib.hid (show L = [] ∨ k ≠ 0 from hex.imp List.length_eq_zero_iff.1 id)
      have HL20 := Lib.hid (H.out.room.next hex).2
      by_cases hL : L.length = 0
      · have hl : ((L.length : Int) == 0) = true := by simpa using hL
        clear hL hex
        obtain rfl | hd0 : d = 0 ∨ 0 < d := by omega
        · have ht0 : (-(k : Int)).tmod 10 = 0 := ht
          clear ht hd9
          go_wp2_with (at_builtin; refine wpList_app rfl _ _ 81 rfl W.heap.size 5 i0 (.int .u8 0) 1 1 Tryd.underlying81 hi hz0 hz1 hz2 rfl (by decide) (.slice (some ⟨wr.heap.size, 0, none⟩) 1 1) 1 [.int .u8 48] rfl (owns_new wr [.int .u8 48] 5 W.heap.size hsz (show 1 ≤ maxLen by decide)) ⟨g, 0, none⟩ L.length cap (bysV L) rfl (by simp [bysV_len]) (OwnB.cells (World.ownsRow.alloc H.out.own _)) (bysV_one L) (by omega) (by unfold maxLen; omega) (by omega) (by simp; omega) ?_; intro g2 cap2 w2 hown hgrow hat hlt hbg)
          have HN := Lib.hid (H.out.next (w1 := wr.alloc (.cells #[.int .u8 48] 5)) (g2 := g2) (cap2 := cap2) HX.out (H.out.kp.alloc _) (by rw [HD.out]; exact hown) hgrow (fun b hb => by simp [Value.ownBlock] at hb; omega))
          clear hown hgrow hat hlt hbg
          go_wp2
          go_roundw
          case rel => exact ⟨k / 10, dg k :: L, g2, cap2, by rw [List.length_cons, Nat.add_comm], by rfl, by have := HK.out; omega, HN.out⟩
          case measure => have := HL20.out; simp [lenOf]; omega
        · have hd1 : decide (-(d : Int) < 0) = true := by simp; omega
          go_wp2_with (at_builtin; refine wpList_app rfl _ _ 81 rfl W.heap.size 5 i0 (.int .u8 0) 1 1 Tryd.underlying81 hi hz0 hz1 hz2 rfl (by decide) (.slice (some ⟨wr.heap.size, 0, none⟩) 1 1) 1 [.int .u8 (48 + (d : Int))] rfl (owns_new wr [.int .u8 (48 + (d : Int))] 5 W.heap.size hsz (show 1 ≤ maxLen by decide)) ⟨g, 0, none⟩ L.length cap (bysV L) rfl (by simp [bysV_len]) (OwnB.cells (World.ownsRow.alloc H.out.own _)) (bysV_one L) (by omega) (by unfold maxLen; omega) (by omega) (by simp; omega) ?_; intro g2 cap2 w2 hown hgrow hat hlt hbg)
          have HN := Lib.hid (H.out.next (w1 := wr.alloc (.cells #[.int .u8 (48 + (d : Int))] 5)) (g2 := g2) (cap2 := cap2) HX.out (H.out.kp.alloc _) (by rw [HD.out]; exact hown) hgrow (fun b hb => by simp [Value.ownBlock] at hb; omega))
          clear hown hgrow hat hlt hbg
          go_wp2
          go_roundw
          case rel => exact ⟨k / 10, dg k :: L, g2, cap2, by rw [List.length_cons, Nat.add_comm], by rfl, by have := HK.out; omega, HN.out⟩
          case measure => have := HL20.out; simp [lenOf]; omega
      · have hl : ((L.length : Int) == 0) = false := by simpa using hL
        have hk2 : ((-(k : Int)) != 0) = true := by simpa [hL] using hex
        clear hL hex
        obtain rfl | hd0 : d = 0 ∨ 0 < d := by omega
        · have ht0 : (-(k : Int)).tmod 10 = 0 := ht
          clear ht hd9
          go_wp2_with (at_builtin; refine wpList_app rfl _ _ 81 rfl W.heap.size 5 i0 (.int .u8 0) 1 1 Tryd.underlying81 hi hz0 hz1 hz2 rfl (by decide) (.slice (some ⟨wr.heap.size, 0, none⟩) 1 1) 1 [.int .u8 48] rfl (owns_new wr [.int .u8 48] 5 W.heap.size hsz (show 1 ≤ maxLen by decide)) ⟨g, 0, none⟩ L.length cap (bysV L) rfl (by simp [bysV_len]) (OwnB.cells (World.ownsRow.alloc H.out.own _)) (bysV_one L) (by omega) (by unfold maxLen; omega) (by omega) (by simp; omega) ?_; intro g2 cap2 w2 hown hgrow hat hlt hbg)
          have HN := Lib.hid (H.out.next (w1 := wr.alloc (.cells #[.int .u8 48] 5)) (g2 := g2) (cap2 := cap2) HX.out (H.out.kp.alloc _) (by rw [HD.out]; exact hown) hgrow (fun b hb => by simp [Value.ownBlock] at hb; omega))
          clear hown hgrow hat hlt hbg
          go_wp2
          go_roundw
          case rel => exact ⟨k / 10, dg k :: L, g2, cap2, by rw [List.length_cons, Nat.add_comm], by rfl, by have := HK.out; omega, HN.out⟩
          case measure => have := HL20.out; simp [lenOf]; omega
        · have hd1 : decide (-(d : Int) < 0) = true := by simp; omega
          go_wp2_with (at_builtin; refine wpList_app rfl _ _ 81 rfl W.heap.size 5 i0 (.int .u8 0) 1 1 Tryd.underlying81 hi hz0 hz1 hz2 rfl (by decide) (.slice (some ⟨wr.heap.size, 0, none⟩) 1 1) 1 [.int .u8 (48 + (d : Int))] rfl (owns_new wr [.int .u8 (48 + (d : Int))] 5 W.heap.size hsz (show 1 ≤ maxLen by decide)) ⟨g, 0, none⟩ L.length cap (bysV L) rfl (by simp [bysV_len]) (OwnB.cells (World.ownsRow.alloc H.out.own _)) (bysV_one L) (by omega) (by unfold maxLen; omega) (by omega) (by simp; omega) ?_; intro g2 cap2 w2 hown hgrow hat hlt hbg)
          have HN := Lib.hid (H.out.next (w1 := wr.alloc (.cells #[.int .u8 (48 + (d : Int))] 5)) (g2 := g2) (cap2 := cap2) HX.out (H.out.kp.alloc _) (by rw [HD.out]; exact hown) hgrow (fun b hb => by simp [Value.ownBlock] at hb; omega))
          clear hown hgrow hat hlt hbg
          go_wp2
          go_roundw
          case rel => exact ⟨k / 10, dg k :: L, g2, cap2, by rw [List.length_cons, Nat.add_comm], by rfl, by have := HK.out; omega, HN.out⟩
          case measure => have := HL20.out; simp [lenOf]; omega
    · have hL : ¬ L.length = 0 := fun h => hex (.inl h)
      have hk : k = 0 := by
        rcases Nat.eq_zero_or_pos k with h | h
        · exact h
        · exact absurd (.inr (by omega)) hex
      have hl : ((L.length : Int) == 0) = false := by simpa using hL
      have HE := Lib.hid (H.out.st.done (fun e => hL (by rw [e]; rfl)) hk)
      subst hk
      clear hex hL
      go_wp2_with (at_builtin; refine wpList_app rfl _ _ 81 rfl W.heap.size 5 i0 (.int .u8 0) 1 1 Tryd.underlying81 hi hz0 hz1 hz2 rfl (by decide) (.slice (some ⟨wr.heap.size, 0, none⟩) 1 1) 1 [.int .u8 45] rfl (owns_new wr [.int .u8 45] 5 W.heap.size hsz (show 1 ≤ maxLen by decide)) ⟨g, 0, none⟩ L.length cap (bysV L) rfl (by simp [bysV_len]) (OwnB.cells (World.ownsRow.alloc H.out.own _)) (bysV_one L) (by omega) (by unfold maxLen; omega) (by omega) (by simp; omega) ?_; intro g2 cap2 w2 hown hgrow hat hlt hbg)
      have HN := Lib.hid (show OwnB W.heap.size w2 g2 cap2 (45 :: L) by
        have e : [Value.int .u8 45] ++ bysV L = bysV (45 :: L) := rfl
        rw [e, Nat.add_comm] at hown
        exact hown)
      have HKP := Lib.hid ((H.out.kp.alloc (.cells #[.int .u8 45] 5)).grown hgrow (fun b hb h2 => by simp [Value.ownBlock] at hb; omega))
      have hs := HN.out.str
      rw [show (45 :: L).length = 1 + L.length by rw [List.length_cons, Nat.add_comm]] at hs
      clear hown hgrow hat hlt hbg
      obtain ⟨S, hS⟩ : ∃ S : List UInt8, 45 :: L = S := ⟨_, rfl⟩
      rw [hS] at hs
      have HSS := Lib.hid hS
      clear hS
      go_wp2
      rw [hs]
      clear hs
      go_wp2
      go_ret
      exact ⟨ret_str (by rw [HE.out, HSS.out]), HKP.out⟩

theorem dec_spec (n : Int) (h0 : -9223372036854775808 ≤ n) (h1 : n ≤ 9223372036854775807) (W : World) : Calls Tryd.prog 42 #[.int .i64 n] W fun e w' => e = .returned (.string ⟨(Lib.itoa n).toArray⟩) ∧ Kp [] W w' := by
  by_cases hn : 0 ≤ n
  · obtain ⟨m, rfl⟩ : ∃ m : Nat, n = (m : Int) := ⟨n.toNat, by omega⟩
    rw [itoa_nat]
    exact dec_pos m (by omega) W
  · obtain ⟨m, rfl⟩ : ∃ m : Nat, n = -(m : Int) := ⟨(-n).toNat, by omega⟩
    rw [itoa_neg m (by omega)]
    exact dec_neg m (by omega) (by omega) W
end Go.Proofs.YtmlocepflcfkmaaDoor
