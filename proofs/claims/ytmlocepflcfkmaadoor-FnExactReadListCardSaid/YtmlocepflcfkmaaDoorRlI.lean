/-
  The numbers of a list with a text: the program's function. Conditions: the text is not too long; Go's tables, errors and variable lie as the library lays them.
-/
import Derived.Test.YtmlocepflcfkmaaDoorWd
namespace Go.Proofs.YtmlocepflcfkmaaDoor
set_option linter.unusedVariables false
set_option linter.unusedSimpArgs false
open Go.RowKit Mem Dec

set_option maxRecDepth 100000 in
set_option maxHeartbeats 2000000 in
theorem readlist_impl (s : ByteArray) (hs : s.size ≤ 1048576) (W : World) (ht : Tens W) (he : Errs W) (hm : MaxL W) : Calls Tryd.prog 11 #[.string s] W (LiPost (Rl s.data.toList) W) := by
  have HT := Lib.hid ht
  have HE := Lib.hid he
  have HM := Lib.hid hm
  clear ht he hm
  go_enter Tryd.func11, Tryd.ntmps11
  go_wp2_with fail
  refine (words_impl s hs 64 (by omega) _ HM.out).mono ?_
  rintro e w1 ⟨hk1, (⟨h1, rfl⟩ | ⟨h1, h2, rfl⟩ | ⟨h1, g, P, b, rfl, hb, hp, hsl, hg, hg'⟩)⟩
  · have HR := Lib.hid (Rl.none_ h1)
    have HK := Lib.hid hk1
    have HO := Lib.hid (own_mt (H := W.heap.size) w1 hk1.size)
    clear hk1 h1
    go_wp2_with fail
    go_loopw [6, 21] (fun o i wr => o = .slice (some ⟨w1.heap.size, 0, none⟩) 0 0 ∧ i = .int .i64 0 ∧ wr = w1.alloc (.cells #[] 2)) (fun _ _ _ => 0)
    case atStart => exact ⟨rfl, rfl, rfl⟩
    case round =>
      obtain ⟨rfl, rfl, rfl⟩ := hrel
      go_wp2_with fail
      go_ret2
      exact LiPost.yes HR.out (HK.out.alloc _) HO.out
  · have HR := Lib.hid (Rl.long (l := s.data.toList) (by omega))
    have HK := Lib.hid hk1
    clear hk1 h1 h2
    go_wp2_with fail
    go_ret2
    exact LiPost.no HR.out HK.out
  · have HP := Lib.hid hp
    have HN := Lib.hid h1
    have HKb := Lib.hid hk1
    cases b
    · have HR := Lib.hid (Rl.many h1 (by rw [parts_len hp]; have : ¬ P.length ≤ 64 := fun h => by have := hb.2 h; cases this
                                         omega))
      clear hk1 h1 hb hp hsl hg hg'
      go_wp2_with fail
      go_ret2
      exact LiPost.no HR.out HKb.out
    · have h64 : P.length ≤ 64 := hb.1 rfl
      have HO0 := Lib.hid (own_mt (H := W.heap.size) w1 hk1.size)
      have HK0 := Lib.hid (hk1.alloc (.cells #[] 2))
      have HS0 := Lib.hid (hsl.alloc (.cells #[] 2))
      clear hk1 h1 hb hp hsl hg
      go_wp2_with fail
      go_loopw [6, 21] (fun o i wr => ∃ (k g2 cap2 : Nat) (xs : List Int), o = .slice (some ⟨g2, 0, none⟩) xs.length cap2 ∧ i = .int .i64 (k : Int) ∧ k ≤ P.length ∧ Hid (g2 ≠ g ∧ g < wr.heap.size) ∧ Hid (Rk s.data.toList k xs) ∧ Hid (Own W.heap.size wr (.slice (some ⟨g2, 0, none⟩) xs.length cap2) xs) ∧ Hid (Sl wr (some ⟨g, 0, none⟩) P.length (P.map Value.string)) ∧ Hid (Kp [] W wr)) (fun _ i _ => P.length - (intOf i).toNat)
      case atStart => exact ⟨0, _, _, [], rfl, rfl, Nat.zero_le _, Lib.hid ⟨by omega, by simp; omega⟩, Lib.hid (Rk.zero _), HO0, HS0, HK0⟩
      case round =>
        obtain ⟨k, g2, cap2, xs, rfl, rfl, hk, HG, HR, HO, HS, HK⟩ := hrel
        by_cases hlt : k < P.length
        · obtain ⟨p, _, hcp, hpk, hpl⟩ := part_at HS.out HP.out hlt
          have HPK := Lib.hid hpk
          have HPS := Lib.hid (show p.size ≤ 1048576 from Nat.le_trans hpl hs)
          clear hpk hpl
          go_wp2_with fail
          refine (value_impl p HPS.out _ (HT.out.kp HK.out) (HE.out.kp HK.out)).mono ?_
          rintro e w5 ⟨n, ok, rfl, hr5, hk5⟩
          have HR5 := Lib.hid hr5
          have K5 := Lib.hid hk5
          clear hr5 hk5 hcp
          cases ok
          · have HRR := Lib.hid (Rl.bad HN.out (List.mem_of_getElem? HPK.out) (Rd.bad HR5.out))
            go_wp2_with fail
            go_ret2
            exact LiPost.no HRR.out (HK.out.tr K5.out)
          · have hxl : xs.length ≤ 1048576 := by have := HR.out.len; omega
            obtain ⟨g3, cap3, w6, hr, hk6, hat, hlt6, ho6⟩ := run_app_i (x := n) (HO.out.kp0 K5.out) (Nat.le_trans HK.out.size K5.out.size) hxl
            have hk6' : Kp [g2] w5 w6 := by simpa [Value.ownBlock] using hk6
            have h2W := (HO.out.lt g2 rfl).1
            have hsz5 := K5.out.size
            have HG6 : Hid (g3 ≠ g ∧ g < w6.heap.size) := Lib.hid ⟨by
              rcases hat with hat | hat
              · have e3 : g2 = g3 := by simpa [Value.ownBlock] using hat
                rw [← e3]; exact HG.out.1
              · have := HG.out.2; omega, Nat.lt_of_lt_of_le HG.out.2 (Nat.le_trans hsz5 hk6'.size)⟩
            have HS6 := Lib.hid ((HS.out.kp K5.out).keep hk6' (by intro a ha; injection ha with ha; subst ha; simp; exact fun e => HG.out.1 e.symm))
            have HK6 := Lib.hid ((HK.out.tr K5.out).later hk6' (by intro t ht; simp at ht; omega))
            have HR6 := Lib.hid (HR.out.succ HPK.out HR5.out)
            have HO6 := Lib.hid (show Own W.heap.size w6 (.slice (some ⟨g3, 0, none⟩) (xs ++ [n]).length cap3) (xs ++ [n]) by rw [List.length_append]; exact ho6)
            clear hk6 hk6' hat hlt6 ho6 h2W hsz5
            go_wp2_with (at_builtin; refine wpList_appE (by rfl) _ _ 22 (by rfl) (by exact hr) ?_)
            go_wp2_with fail
            go_roundw
            case rel => exact ⟨k + 1, g3, cap3, xs ++ [n], by simp, by go_num, by omega, HG6, HR6, HO6, HS6, HK6⟩
            case measure => simp [intOf]; omega
        · obtain rfl : k = P.length := by omega
          have HRR := Lib.hid (HR.out.all HN.out (parts_len HP.out) h64)
          go_wp2_with fail
          go_ret2
          exact LiPost.yes HRR.out HK.out HO.out
end Go.Proofs.YtmlocepflcfkmaaDoor
