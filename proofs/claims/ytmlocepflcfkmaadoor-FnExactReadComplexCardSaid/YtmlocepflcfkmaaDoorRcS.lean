/-
  The complex numbers with a text of hexadecimal digits: the reference's function. Conditions: the text is not too long.
-/
import Derived.Test.YtmlocepflcfkmaaDoorRc
namespace Go.Proofs.YtmlocepflcfkmaaDoor
set_option linter.unusedVariables false
set_option linter.unusedSimpArgs false
open Go.RowKit Mem Dec Hex Rg

set_option maxRecDepth 100000 in
set_option maxHeartbeats 2000000 in
theorem cread_spec (s : ByteArray) (hs : s.size ≤ 1048576) (W : World) : Calls Tryd.prog 40 #[.string s] W (LcPost (Rc s.data.toList) W) := by
  have HO0 := Lib.hid (ownC_mt (H := W.heap.size) W (Nat.le_refl _))
  have HK0 := Lib.hid ((Kp.refl W).alloc (.cells #[] 57))
  by_cases hN : s = noneB
  · have HR := Lib.hid (show Rc s.data.toList [] true from R.none_ ((noneB_iff s).1 hN))
    subst hN
    go_enter Tryd.func40, Tryd.ntmps40
    go_wp2_with fail
    go_ret2
    exact LcPost.yes HR.out HK0.out HO0.out
  · have HN := Lib.hid (show s.data.toList ≠ noneL from fun h => hN ((noneB_iff s).2 h))
    have q1 := noneB_neq hN
    go_enter Tryd.func40, Tryd.ntmps40
    go_wp2_with fail
    clear q1 hN
    refine (cut_spec s hs _).mono ?_
    rintro e w1 ⟨g, cap, P, rfl, hp, hsl, hk1, hg, hg'⟩
    have HP := Lib.hid hp
    have HL := Lib.hid hsl
    have HO1 := Lib.hid (HO0.out.kp0 hk1)
    have HK1 := Lib.hid (HK0.out.tr hk1)
    have hgg : W.heap.size + 1 ≤ g := by simpa using hg
    clear hp hsl hk1 hg HO0 HK0
    by_cases h64 : 256 < P.length
    · have HR := Lib.hid (show Rc s.data.toList [] false from R.many HN.out (by rw [parts_len HP.out]; exact h64))
      go_wp2_with fail
      go_ret2
      exact LcPost.no HR.out HK1.out
    · go_wp2_with fail
      go_loopw [4, 6] (fun o i wr => ∃ (k g2 cap2 : Nat) (xs : List (Nat × Nat)), o = .slice (some ⟨g2, 0, none⟩) xs.length cap2 ∧ i = .int .i64 (k : Int) ∧ k ≤ P.length ∧ Hid (g2 ≠ g ∧ g < wr.heap.size) ∧ Hid (RkC s.data.toList k xs) ∧ Hid (OwnC W.heap.size wr (.slice (some ⟨g2, 0, none⟩) xs.length cap2) xs) ∧ Hid (Sl wr (some ⟨g, 0, none⟩) P.length (P.map Value.string)) ∧ Hid (Kp [] W wr)) (fun _ i _ => P.length - (intOf i).toNat)
      case atStart => exact ⟨0, _, _, [], rfl, rfl, Nat.zero_le _, Lib.hid ⟨by omega, hg'⟩, Lib.hid (Rk.zero _), HO1, HL, HK1⟩
      case round =>
        obtain ⟨k, g2, cap2, xs, rfl, rfl, hk, HG, HR, HO, HS, HK⟩ := hrel
        by_cases hlt : k < P.length
        · obtain ⟨p, _, hcp, hpk, hpl⟩ := part_at HS.out HP.out hlt
          have HPK := Lib.hid hpk
          have HPS := Lib.hid (show p.size ≤ 1048576 from Nat.le_trans hpl hs)
          clear hpk hpl
          by_cases h16 : p.size = 16
          · have H1 := Lib.hid (ext_s1 p h16)
            have H2 := Lib.hid (ext_s2 p h16)
            have H16 := Lib.hid h16
            go_wp2_with fail
            refine (digits_spec (p.extract 0 8) H1.out _).mono ?_
            rintro e w4 ⟨x1, ok1, rfl, hr4, hk4⟩
            have HR4 := Lib.hid hr4
            have K4 := Lib.hid hk4
            have HS4 := Lib.hid (HS.out.kp hk4)
            have hcp4 := (hk4.cell (p := ⟨g, k, none⟩) HG.out.2 (by simp)).trans hcp
            clear hr4 hk4 hcp
            go_wp2_with fail
            refine (digits_spec (p.extract 8 16) H2.out _).mono ?_
            rintro e w5 ⟨x2, ok2, rfl, hr5, hk5⟩
            have HR5 := Lib.hid (one16 (p := p.data.toList) (by rw [dl_len]; exact H16.out) (by rw [← ext_take]; exact HR4.out) (by rw [← ext_drop p H16.out]; exact hr5))
            have K5 := Lib.hid (K4.out.tr hk5)
            clear hr5 hk5 hcp4 HR4
            cases ok1
            · have HRR := Lib.hid (show Rc s.data.toList [] false from R.bad HN.out (List.mem_of_getElem? HPK.out) (one_no HR5.out))
              go_wp2_with fail
              go_ret2
              exact LcPost.no HRR.out (HK.out.tr K5.out)
            cases ok2
            · have HRR := Lib.hid (show Rc s.data.toList [] false from R.bad HN.out (List.mem_of_getElem? HPK.out) (one_no HR5.out))
              go_wp2_with fail
              go_ret2
              exact LcPost.no HRR.out (HK.out.tr K5.out)
            have hgd : Good2 (x1, x2) ∧ tx16 (x1, x2) = p.data.toList := one_yes HR5.out
            have hxl : xs.length ≤ 1048576 := by have := HR.out.len; omega
            obtain ⟨g3, cap3, w6, hr, hk6, hat, hlt6, ho6⟩ := run_app_c (x := (x1, x2)) (HO.out.kp0 K5.out) (Nat.le_trans HK.out.size K5.out.size) hxl
            have hk6' := hk6
            simp only [Value.ownBlock, Option.toList_some] at hk6'
            have h2W := (HO.out.lt g2 rfl).1
            have hsz5 := K5.out.size
            have HG6 : Hid (g3 ≠ g ∧ g < w6.heap.size) := Lib.hid ⟨by
              rcases hat with hat | hat
              · have e3 : g2 = g3 := by simpa [Value.ownBlock] using hat
                rw [← e3]; exact HG.out.1
              · have := HG.out.2; omega, Nat.lt_of_lt_of_le HG.out.2 (Nat.le_trans hsz5 hk6'.size)⟩
            have HS6 := Lib.hid ((HS.out.kp K5.out).keep hk6' (by intro a ha; injection ha with ha; subst ha; simp; exact fun e => HG.out.1 e.symm))
            have HK6 := Lib.hid ((HK.out.tr K5.out).later hk6' (by intro t ht; simp at ht; omega))
            have HR6 := Lib.hid (HR.out.succ HPK.out hgd.1 hgd.2)
            have HO6 := Lib.hid (show OwnC W.heap.size w6 (.slice (some ⟨g3, 0, none⟩) (xs ++ [(x1, x2)]).length cap3) (xs ++ [(x1, x2)]) by rw [List.length_append]; exact ho6)
            clear hk6 hk6' hat hlt6 ho6 h2W hsz5 hgd
            go_wp2_with (at_builtin; refine wpList_appE (by rfl) _ _ 33 (by rfl) (by exact hr) ?_)
            go_wp2_with fail
            go_roundw
            case rel => exact ⟨k + 1, g3, cap3, xs ++ [(x1, x2)], by simp, by go_num, by omega, HG6, HR6, HO6, HS6, HK6⟩
            case measure => simp [intOf]; omega
          · have HRR := Lib.hid (show Rc s.data.toList [] false from R.bad HN.out (List.mem_of_getElem? HPK.out) (one_no (one16_len (by rw [dl_len]; exact h16) (0, 0))))
            have q16 : ((p.size : Int) == 16) = false := by rw [beq_eq_false_iff_ne]; omega
            have q16' : ((p.size : Int) != 16) = true := by rw [bne_iff_ne]; omega
            clear h16
            go_wp2_with fail
            go_ret2
            exact LcPost.no HRR.out HK.out
        · obtain rfl : k = P.length := by omega
          have HRR := Lib.hid (show Rc s.data.toList xs true from HR.out.all HN.out (parts_len HP.out) (by omega))
          go_wp2_with fail
          go_ret2
          exact LcPost.yes HRR.out HK.out HO.out

theorem readc_spec (s : ByteArray) (hs : s.size ≤ 1048576) (W : World) : Calls Tryd.prog 20 #[.string s] W (LcPost (Rc s.data.toList) W) := by
  go_enter Tryd.func20, Tryd.ntmps20
  go_wp2_with fail
  refine (cread_spec s hs _).mono ?_
  rintro e w1 ⟨xs, ok, A, c, h1, rfl, h2, h3⟩
  have H1 := Lib.hid h1
  have H2 := Lib.hid h2
  have H3 := Lib.hid h3
  clear h1 h2 h3
  go_wp2_with fail
  go_ret2
  exact ⟨xs, ok, A, c, H1.out, rfl, H2.out, H3.out⟩
end Go.Proofs.YtmlocepflcfkmaaDoor
