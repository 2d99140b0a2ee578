/-
  A text cut at each mark: the reference's function. Conditions: the text is not too long.
-/
import Derived.Test.YtmlocepflcfkmaaDoorLtI
import Derived.Test.YtmlocepflcfkmaaDoorCutL
namespace Go.Proofs.YtmlocepflcfkmaaDoor
set_option linter.unusedVariables false
set_option linter.unusedSimpArgs false
open Go.RowKit Mem Dec

abbrev OwnS (Bd : Nat) (w : World) (g cap : Nat) (P : List ByteArray) : Prop := w.ownsRow Bd 9 1 (.slice (some ⟨g, 0, none⟩) P.length cap) P.length (P.map Value.string)
theorem ownS_sl {Bd : Nat} {w : World} {g cap : Nat} {P : List ByteArray} (h : OwnS Bd w g cap P) : Sl w (some ⟨g, 0, none⟩) P.length (P.map Value.string) := by
  refine ⟨by simp, fun _ => ⟨g, 0, rfl, (owns_cap h).2.1, fun j u hu => ?_⟩⟩
  have h2 := World.ownsRow.cells h (g := g) rfl j u hu
  rw [Addr.add_lit] at h2
  exact h2
theorem dl_len (s : ByteArray) : s.data.toList.length = s.size := rfl
theorem dl_at (s : ByteArray) {k : Nat} (h : k < s.size) : s.data.toList[k]? = some s[k] := by
  rw [List.getElem?_eq_getElem (show k < s.data.toList.length from h)]; rfl

/-- The parts as texts. -/
def Parts (l : List UInt8) (P : List ByteArray) : Prop := P.map (·.data.toList) = Cut.cutL 44 l

set_option maxRecDepth 100000 in
set_option maxHeartbeats 2000000 in
theorem cut_spec (s : ByteArray) (hs : s.size ≤ 1048576) (W : World) :
    Calls Tryd.prog 55 #[.string s, .int .u8 44] W fun e w' => ∃ g cap P, e = .returned (.slice (some ⟨g, 0, none⟩) P.length cap) ∧ Parts s.data.toList P ∧ Sl w' (some ⟨g, 0, none⟩) P.length (P.map Value.string) ∧ Kp [] W w' ∧ W.heap.size ≤ g ∧ g < w'.heap.size := by
  have HS := Lib.hid (dl_len s)
  obtain ⟨i0, hi, hz0, hz1, hz2⟩ := info_parts info9
  go_enter Tryd.func55, Tryd.ntmps55
  go_wp2
  go_loopw [5, 6, 7] (fun o f i wr => ∃ (k f' g cap : Nat) (P : List ByteArray), o = .slice (some ⟨g, 0, none⟩) P.length cap ∧ f = .int .i64 (f' : Int) ∧ i = .int .i64 (k : Int) ∧ k ≤ s.size + 1 ∧ Hid (Cut.At 44 s.data.toList k f' (P.map (·.data.toList))) ∧ Hid (OwnS W.heap.size wr g cap P) ∧ Hid (Kp [] W wr)) (fun _ _ i _ => s.size + 1 - (intOf i).toNat)
  case atStart => exact ⟨0, 0, _, _, [], rfl, rfl, rfl, Nat.zero_le _, Lib.hid (Cut.At.zero _ _), Lib.hid (World.ownsRow_made W #[] 0 (Nat.le_refl _) (by decide) rfl), Lib.hid ((Kp.refl W).alloc _)⟩
  case round =>
    obtain ⟨k, f, g, cap, P, rfl, rfl, rfl, hk, HC, HO, HK⟩ := hrel
    have hPl : P.length ≤ s.size + 1 := by have := HC.out.len; rw [List.length_map, HS.out] at this; exact this
    by_cases hle : k ≤ s.size
    · have hsz := HK.out.size
      have hfk : f ≤ k := HC.out.lt (by rw [HS.out]; exact hle)
      by_cases hend : k = s.size
      · subst hend
        have HC2 := Lib.hid (show Cut.At 44 s.data.toList (s.size + 1) (s.size + 1) ((P ++ [s.extract f s.size]).map (·.data.toList)) by
          have h3 := (show Cut.At 44 s.data.toList s.data.toList.length f _ from HC.out).end_.2
          rw [List.map_append, List.map_cons, List.map_nil, Cut.ext_data]
          exact h3)
        clear HC
        generalize hX : s.extract f s.size = X at HC2
        go_wp2_with (at_builtin; refine wpList_app rfl _ _ 49 rfl W.heap.size 9 i0 (.string ByteArray.empty) 1 16 Tryd.underlying49 hi hz0 hz1 hz2 rfl (by decide) (.slice (some ⟨g, 0, none⟩) P.length cap) P.length (P.map Value.string) rfl (World.ownsRow.alloc HO.out _) ⟨wr.heap.size, 0, none⟩ 1 1 [.string X] rfl rfl (cell_one_new wr (.string X) 9) (by simp [Value.oneCell']) (by omega) (by unfold maxLen; omega) (by omega) (by simp; omega) ?_; intro g2 cap2 w3 hown hgrow hat hlt2 hbg)
        have HN := Lib.hid (show OwnS W.heap.size w3 g2 cap2 (P ++ [X]) by unfold OwnS; rw [List.length_append, List.map_append]; exact hown)
        have HK3 := Lib.hid ((HK.out.alloc (.cells #[.string X] 9)).grown hgrow (fun b hb2 h2 => by
          have := (owns_cap HO.out).2.2
          simp [Value.ownBlock] at hb2; omega))
        clear hown hgrow hat hlt2 hbg
        go_wp2
        go_roundw
        case rel => exact ⟨s.size + 1, s.size + 1, g2, cap2, P ++ [X], by simp, by go_num, by go_num, by omega, HC2, HN, HK3⟩
        case measure => simp [intOf]
      · have hlt : k < s.size := by omega
        have hne : ((k : Int) == (s.size : Int)) = false := by rw [beq_eq_false_iff_ne]; omega
        by_cases hb : s[k].toNat = 44
        · have HC2 := Lib.hid (show Cut.At 44 s.data.toList (k + 1) (k + 1) ((P ++ [s.extract f k]).map (·.data.toList)) by
            have h3 := (HC.out.mark (show s.data.toList[k]? = some 44 by rw [dl_at s hlt]; congr 1; exact UInt8.toNat_inj.1 hb)).2
            rw [List.map_append, List.map_cons, List.map_nil, Cut.ext_data]
            exact h3)
          clear HC
          generalize hX : s.extract f k = X at HC2
          go_wp2_with (at_builtin; refine wpList_app rfl _ _ 49 rfl W.heap.size 9 i0 (.string ByteArray.empty) 1 16 Tryd.underlying49 hi hz0 hz1 hz2 rfl (by decide) (.slice (some ⟨g, 0, none⟩) P.length cap) P.length (P.map Value.string) rfl (World.ownsRow.alloc HO.out _) ⟨wr.heap.size, 0, none⟩ 1 1 [.string X] rfl rfl (cell_one_new wr (.string X) 9) (by simp [Value.oneCell']) (by omega) (by unfold maxLen; omega) (by omega) (by simp; omega) ?_; intro g2 cap2 w3 hown hgrow hat hlt2 hbg)
          have HN := Lib.hid (show OwnS W.heap.size w3 g2 cap2 (P ++ [X]) by unfold OwnS; rw [List.length_append, List.map_append]; exact hown)
          have HK3 := Lib.hid ((HK.out.alloc (.cells #[.string X] 9)).grown hgrow (fun b hb2 h2 => by
            have := (owns_cap HO.out).2.2
            simp [Value.ownBlock] at hb2; omega))
          clear hown hgrow hat hlt2 hbg
          go_wp2
          go_roundw
          case rel => exact ⟨k + 1, k + 1, g2, cap2, P ++ [X], by simp, by go_num, by go_num, by omega, HC2, HN, HK3⟩
          case measure => simp [intOf]; omega
        · have HC2 := Lib.hid (HC.out.other (dl_at s hlt) (fun e => hb (by rw [e]; rfl)))
          have hb2 : ((s[k].toNat : Int) == 44) = false := by rw [beq_eq_false_iff_ne]; omega
          clear HC
          go_wp2
          go_roundw
          case rel => exact ⟨k + 1, f, g, cap, P, rfl, rfl, by go_num, by omega, HC2, HO, HK⟩
          case measure => simp [intOf]; omega
    · obtain rfl : k = s.size + 1 := by omega
      have HP := Lib.hid (show Parts s.data.toList P from (show Cut.At 44 s.data.toList (s.data.toList.length + 1) f _ from HC.out).all.symm)
      have HL := Lib.hid (ownS_sl HO.out)
      have HG := Lib.hid (owns_cap HO.out).2
      clear HC
      go_wp2
      go_ret
      exact ⟨_, _, P, rfl, HP.out, HL.out, HK.out, HG.out.2, HG.out.1⟩
end Go.Proofs.YtmlocepflcfkmaaDoor
