/-
  The complex numbers with a text of hexadecimal digits: the program's function. Conditions: the text is not too long; Go's tables, errors and variable lie as the library lays them.
-/
import Derived.Test.YtmlocepflcfkmaaDoorRnS
import Derived.Test.YtmlocepflcfkmaaDoorMarkC
namespace Go.Proofs.YtmlocepflcfkmaaDoor
set_option linter.unusedVariables false
set_option linter.unusedSimpArgs false
open Go.RowKit Mem Dec Hex Rg

abbrev Rc := R tx16 Good2 256
abbrev RkC := Rg.Rk tx16 Good2
/-- What a list's reading hands back: an owned list and a flag. -/
def LcPost (Q : List (Nat × Nat) → Bool → Prop) (w : World) (e : Ending) (w' : World) : Prop :=
  ∃ xs ok A c, Q xs ok ∧ e = .returned (.tuple #[.slice A xs.length c, .bool ok]) ∧ Kp [] w w' ∧ OwnC w.heap.size w' (.slice A xs.length c) xs
theorem LcPost.no {Q : List (Nat × Nat) → Bool → Prop} {w w' : World} (h : Q [] false) (hk : Kp [] w w') : LcPost Q w (.returned (.tuple #[.slice none 0 0, .bool false])) w' :=
  ⟨[], false, none, 0, h, rfl, hk, OwnC.nil _ _⟩
theorem LcPost.yes {Q : List (Nat × Nat) → Bool → Prop} {w w' : World} {A : Option Addr} {c : Nat} {xs : List (Nat × Nat)} (h : Q xs true) (hk : Kp [] w w') (ho : OwnC w.heap.size w' (.slice A xs.length c) xs) : LcPost Q w (.returned (.tuple #[.slice A xs.length c, .bool true])) w' :=
  ⟨xs, true, A, c, h, rfl, hk, ho⟩

theorem rc_long {l : List UInt8} (hl : 20 * 256 < l.length) : Rc l [] false := R.long (K := 16) (fun m _ => by rw [tx16_len]; exact Nat.le_refl _) (by omega) (by simp [noneL]) hl (by omega)

set_option maxRecDepth 100000 in
set_option maxHeartbeats 2000000 in
theorem readc_impl (s : ByteArray) (hs : s.size ≤ 1048576) (W : World) (ht : DeB W) (he : Errs W) (hm : MaxL W) : Calls Tryd.prog 21 #[.string s] W (LcPost (Rc s.data.toList) W) := by
  have HT := Lib.hid ht
  have HE := Lib.hid he
  have HM := Lib.hid hm
  clear ht he hm
  go_enter Tryd.func21, Tryd.ntmps21
  go_wp2_with fail
  refine (words_impl s hs 256 (by omega) _ HM.out).mono ?_
  rintro e w1 ⟨hk1, (⟨h1, rfl⟩ | ⟨h1, h2, rfl⟩ | ⟨h1, g, P, b, rfl, hb, hp, hsl, hg, hg'⟩)⟩
  · have HR := Lib.hid (show Rc s.data.toList [] true from R.none_ h1)
    have HK := Lib.hid hk1
    have HO := Lib.hid (ownC_mt (H := W.heap.size) w1 hk1.size)
    clear hk1 h1
    go_wp2_with fail
    go_loopw [6, 23] (fun o i wr => o = .slice (some ⟨w1.heap.size, 0, none⟩) 0 0 ∧ i = .int .i64 0 ∧ wr = w1.alloc (.cells #[] 57)) (fun _ _ _ => 0)
    case atStart => exact ⟨rfl, rfl, rfl⟩
    case round =>
      obtain ⟨rfl, rfl, rfl⟩ := hrel
      go_wp2_with fail
      go_ret2
      exact LcPost.yes HR.out (HK.out.alloc _) HO.out
  · have HR := Lib.hid (rc_long h2)
    have HK := Lib.hid hk1
    clear hk1 h1 h2
    go_wp2_with fail
    go_ret2
    exact LcPost.no HR.out HK.out
  · have HP := Lib.hid hp
    have HN := Lib.hid h1
    have HKb := Lib.hid hk1
    cases b
    · have HR := Lib.hid (show Rc s.data.toList [] false from R.many h1 (by rw [parts_len hp]; have h9 : ¬ P.length ≤ 256 := (fun h => by have := hb.2 h; cases this); omega))
      clear hk1 h1 hb hp hsl hg hg'
      go_wp2_with fail
      go_ret2
      exact LcPost.no HR.out HKb.out
    · have h64 : P.length ≤ 256 := hb.1 rfl
      have HO0 := Lib.hid (ownC_mt (H := W.heap.size) w1 hk1.size)
      have HK0 := Lib.hid (hk1.alloc (.cells #[] 57))
      have HS0 := Lib.hid (hsl.alloc (.cells #[] 57))
      clear hk1 h1 hb hp hsl hg
      go_wp2_with fail
      go_loopw [6, 23] (fun o i wr => ∃ (k g2 cap2 : Nat) (xs : List (Nat × Nat)), o = .slice (some ⟨g2, 0, none⟩) xs.length cap2 ∧ i = .int .i64 (k : Int) ∧ k ≤ P.length ∧ Hid (g2 ≠ g ∧ g < wr.heap.size) ∧ Hid (RkC s.data.toList k xs) ∧ Hid (OwnC W.heap.size wr (.slice (some ⟨g2, 0, none⟩) xs.length cap2) xs) ∧ Hid (Sl wr (some ⟨g, 0, none⟩) P.length (P.map Value.string)) ∧ Hid (Kp [] W wr)) (fun _ i _ => P.length - (intOf i).toNat)
      case atStart => exact ⟨0, _, _, [], rfl, rfl, Nat.zero_le _, Lib.hid ⟨by omega, by simp; omega⟩, Lib.hid (Rk.zero _), HO0, HS0, HK0⟩
      case round =>
        obtain ⟨k, g2, cap2, xs, rfl, rfl, hk, HG, HR, HO, HS, HK⟩ := hrel
        by_cases hlt : k < P.length
        · obtain ⟨p, _, hcp, hpk, hpl⟩ := part_at HS.out HP.out hlt
          have HPK := Lib.hid hpk
          have HPS := Lib.hid (show p.size ≤ 1048576 from Nat.le_trans hpl hs)
          clear hpk hpl
          by_cases h16 : p.size = 16
          · have H1 := Lib.hid (ext_s1 p h16)
            have H2 := Lib.hid (ext_s2 p h16)
            have H16 := Lib.hid h16
            go_wp2_with fail
            refine (unhex_impl (p.extract 0 8) (by have := H1.out; omega) _ (HT.out.kp HK.out) (HE.out.kp HK.out)).mono ?_
            rintro e w4 ⟨x1, ok1, rfl, hr4, hk4⟩
            have HR4 := Lib.hid hr4
            have K4 := Lib.hid hk4
            have HS4 := Lib.hid (HS.out.kp hk4)
            have hcp4 := (hk4.cell (p := ⟨g, k, none⟩) HG.out.2 (by simp)).trans hcp
            clear hr4 hk4 hcp
            go_wp2_with fail
            refine (unhex_impl (p.extract 8 16) (by have := H2.out; omega) _ ((HT.out.kp HK.out).kp K4.out) ((HE.out.kp HK.out).kp K4.out)).mono ?_
            rintro e w5 ⟨x2, ok2, rfl, hr5, hk5⟩
            have HR5 := Lib.hid (one16 (p := p.data.toList) (by rw [dl_len]; exact H16.out) (by rw [← ext_take]; exact HR4.out) (by rw [← ext_drop p H16.out]; exact hr5))
            have K5 := Lib.hid (K4.out.tr hk5)
            clear hr5 hk5 hcp4 HR4
            cases ok1
            · have HRR := Lib.hid (show Rc s.data.toList [] false from R.bad HN.out (List.mem_of_getElem? HPK.out) (one_no HR5.out))
              go_wp2_with fail
              go_ret2
              exact LcPost.no HRR.out (HK.out.tr K5.out)
            cases ok2
            · have HRR := Lib.hid (show Rc s.data.toList [] false from R.bad HN.out (List.mem_of_getElem? HPK.out) (one_no HR5.out))
              go_wp2_with fail
              go_ret2
              exact LcPost.no HRR.out (HK.out.tr K5.out)
            have hgd : Good2 (x1, x2) ∧ tx16 (x1, x2) = p.data.toList := one_yes HR5.out
            have hxl : xs.length ≤ 1048576 := by have := HR.out.len; omega
            obtain ⟨g3, cap3, w6, hr, hk6, hat, hlt6, ho6⟩ := run_app_c (x := (x1, x2)) (HO.out.kp0 K5.out) (Nat.le_trans HK.out.size K5.out.size) hxl
            have hk6' := hk6
            simp only [Value.ownBlock, Option.toList_some] at hk6'
            have h2W := (HO.out.lt g2 rfl).1
            have hsz5 := K5.out.size
            have HG6 : Hid (g3 ≠ g ∧ g < w6.heap.size) := Lib.hid ⟨by
              rcases hat with hat | hat
              · have e3 : g2 = g3 := by simpa [Value.ownBlock] using hat
                rw [← e3]; exact HG.out.1
              · have := HG.out.2; omega, Nat.lt_of_lt_of_le HG.out.2 (Nat.le_trans hsz5 hk6'.size)⟩
            have HS6 := Lib.hid ((HS.out.kp K5.out).keep hk6' (by intro a ha; injection ha with ha; subst ha; simp; exact fun e => HG.out.1 e.symm))
            have HK6 := Lib.hid ((HK.out.tr K5.out).later hk6' (by intro t ht; simp at ht; omega))
            have HR6 := Lib.hid (HR.out.succ HPK.out hgd.1 hgd.2)
            have HO6 := Lib.hid (show OwnC W.heap.size w6 (.slice (some ⟨g3, 0, none⟩) (xs ++ [(x1, x2)]).length cap3) (xs ++ [(x1, x2)]) by rw [List.length_append]; exact ho6)
            clear hk6 hk6' hat hlt6 ho6 h2W hsz5 hgd
            go_wp2_with (at_builtin; refine wpList_appE (by rfl) _ _ 33 (by rfl) (by exact hr) ?_)
            go_wp2_with fail
            go_roundw
            case rel => exact ⟨k + 1, g3, cap3, xs ++ [(x1, x2)], by simp, by go_num, by omega, HG6, HR6, HO6, HS6, HK6⟩
            case measure => simp [intOf]; omega
          · have HRR := Lib.hid (show Rc s.data.toList [] false from R.bad HN.out (List.mem_of_getElem? HPK.out) (one_no (one16_len (by rw [dl_len]; exact h16) (0, 0))))
            have q16 : ((p.size : Int) == 16) = false := by rw [beq_eq_false_iff_ne]; omega
            have q16' : ((p.size : Int) != 16) = true := by rw [bne_iff_ne]; omega
            clear h16
            go_wp2_with fail
            go_ret2
            exact LcPost.no HRR.out HK.out
        · obtain rfl : k = P.length := by omega
          have HRR := Lib.hid (show Rc s.data.toList xs true from HR.out.all HN.out (parts_len HP.out) h64)
          go_wp2_with fail
          go_ret2
          exact LcPost.yes HRR.out HK.out HO.out
end Go.Proofs.YtmlocepflcfkmaaDoor
