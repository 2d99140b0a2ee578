/-
  The numbers with a text of hexadecimal digits: the functions. Conditions: the text is not too long; Go's tables, errors and variable lie as the library lays them.
-/
import Derived.Test.YtmlocepflcfkmaaDoorUh
import Derived.Test.YtmlocepflcfkmaaDoorMarkF
import Derived.Test.YtmlocepflcfkmaaDoorWd
namespace Go.Proofs.YtmlocepflcfkmaaDoor
set_option linter.unusedVariables false
set_option linter.unusedSimpArgs false
open Go.RowKit Mem Dec Hex Rg

abbrev Rn := R hexL Rg.Good 256
abbrev RkN := Rg.Rk hexL Rg.Good
/-- What a list's reading hands back: an owned list and a flag. -/
def LfPost (Q : List Nat → Bool → Prop) (w : World) (e : Ending) (w' : World) : Prop :=
  ∃ xs ok A c, Q xs ok ∧ e = .returned (.tuple #[.slice A xs.length c, .bool ok]) ∧ Kp [] w w' ∧ OwnF w.heap.size w' (.slice A xs.length c) xs
theorem LfPost.no {Q : List Nat → Bool → Prop} {w w' : World} (h : Q [] false) (hk : Kp [] w w') : LfPost Q w (.returned (.tuple #[.slice none 0 0, .bool false])) w' :=
  ⟨[], false, none, 0, h, rfl, hk, OwnF.nil _ _⟩
theorem LfPost.yes {Q : List Nat → Bool → Prop} {w w' : World} {A : Option Addr} {c : Nat} {xs : List Nat} (h : Q xs true) (hk : Kp [] w w') (ho : OwnF w.heap.size w' (.slice A xs.length c) xs) : LfPost Q w (.returned (.tuple #[.slice A xs.length c, .bool true])) w' :=
  ⟨xs, true, A, c, h, rfl, hk, ho⟩

theorem one_no {E : Type} {tx : E → List UInt8} {good : E → Prop} {p : List UInt8} {x : E} (h : One tx good p x false) : No tx good p := by
  rcases h with ⟨h, _⟩ | ⟨_, h⟩
  · cases h
  · exact h
theorem one_yes {E : Type} {tx : E → List UInt8} {good : E → Prop} {p : List UInt8} {x : E} (h : One tx good p x true) : good x ∧ tx x = p := by
  rcases h with ⟨_, h⟩ | ⟨h, _⟩
  · exact h
  · cases h
theorem rn_long {l : List UInt8} (hl : 20 * 256 < l.length) : Rn l [] false := R.long (K := 8) (fun m _ => by rw [hexL_len]; exact Nat.le_refl _) (by omega) (by simp [noneL]) hl (by omega)

set_option maxRecDepth 100000 in
set_option maxHeartbeats 2000000 in
theorem readn_impl (s : ByteArray) (hs : s.size ≤ 1048576) (W : World) (ht : DeB W) (he : Errs W) (hm : MaxL W) : Calls Tryd.prog 16 #[.string s] W (LfPost (Rn s.data.toList) W) := by
  have HT := Lib.hid ht
  have HE := Lib.hid he
  have HM := Lib.hid hm
  clear ht he hm
  go_enter Tryd.func16, Tryd.ntmps16
  go_wp2_with fail
  refine (words_impl s hs 256 (by omega) _ HM.out).mono ?_
  rintro e w1 ⟨hk1, (⟨h1, rfl⟩ | ⟨h1, h2, rfl⟩ | ⟨h1, g, P, b, rfl, hb, hp, hsl, hg, hg'⟩)⟩
  · have HR := Lib.hid (show Rn s.data.toList [] true from R.none_ h1)
    have HK := Lib.hid hk1
    have HO := Lib.hid (ownF_mt (H := W.heap.size) w1 hk1.size)
    clear hk1 h1
    go_wp2_with fail
    go_loopw [6, 21] (fun o i wr => o = .slice (some ⟨w1.heap.size, 0, none⟩) 0 0 ∧ i = .int .i64 0 ∧ wr = w1.alloc (.cells #[] 52)) (fun _ _ _ => 0)
    case atStart => exact ⟨rfl, rfl, rfl⟩
    case round =>
      obtain ⟨rfl, rfl, rfl⟩ := hrel
      go_wp2_with fail
      go_ret2
      exact LfPost.yes HR.out (HK.out.alloc _) HO.out
  · have HR := Lib.hid (rn_long h2)
    have HK := Lib.hid hk1
    clear hk1 h1 h2
    go_wp2_with fail
    go_ret2
    exact LfPost.no HR.out HK.out
  · have HP := Lib.hid hp
    have HN := Lib.hid h1
    have HKb := Lib.hid hk1
    cases b
    · have HR := Lib.hid (show Rn s.data.toList [] false from R.many h1 (by rw [parts_len hp]; have h9 : ¬ P.length ≤ 256 := (fun h => by have := hb.2 h; cases this); omega))
      clear hk1 h1 hb hp hsl hg hg'
      go_wp2_with fail
      go_ret2
      exact LfPost.no HR.out HKb.out
    · have h64 : P.length ≤ 256 := hb.1 rfl
      have HO0 := Lib.hid (ownF_mt (H := W.heap.size) w1 hk1.size)
      have HK0 := Lib.hid (hk1.alloc (.cells #[] 52))
      have HS0 := Lib.hid (hsl.alloc (.cells #[] 52))
      clear hk1 h1 hb hp hsl hg
      go_wp2_with fail
      go_loopw [6, 21] (fun o i wr => ∃ (k g2 cap2 : Nat) (xs : List Nat), o = .slice (some ⟨g2, 0, none⟩) xs.length cap2 ∧ i = .int .i64 (k : Int) ∧ k ≤ P.length ∧ Hid (g2 ≠ g ∧ g < wr.heap.size) ∧ Hid (RkN s.data.toList k xs) ∧ Hid (OwnF W.heap.size wr (.slice (some ⟨g2, 0, none⟩) xs.length cap2) xs) ∧ Hid (Sl wr (some ⟨g, 0, none⟩) P.length (P.map Value.string)) ∧ Hid (Kp [] W wr)) (fun _ i _ => P.length - (intOf i).toNat)
      case atStart => exact ⟨0, _, _, [], rfl, rfl, Nat.zero_le _, Lib.hid ⟨by omega, by simp; omega⟩, Lib.hid (Rk.zero _), HO0, HS0, HK0⟩
      case round =>
        obtain ⟨k, g2, cap2, xs, rfl, rfl, hk, HG, HR, HO, HS, HK⟩ := hrel
        by_cases hlt : k < P.length
        · obtain ⟨p, _, hcp, hpk, hpl⟩ := part_at HS.out HP.out hlt
          have HPK := Lib.hid hpk
          have HPS := Lib.hid (show p.size ≤ 1048576 from Nat.le_trans hpl hs)
          clear hpk hpl
          go_wp2_with fail
          refine (unhex_impl p HPS.out _ (HT.out.kp HK.out) (HE.out.kp HK.out)).mono ?_
          rintro e w5 ⟨n, ok, rfl, hr5, hk5⟩
          have HR5 := Lib.hid hr5
          have K5 := Lib.hid hk5
          clear hr5 hk5 hcp
          cases ok
          · have HRR := Lib.hid (show Rn s.data.toList [] false from R.bad HN.out (List.mem_of_getElem? HPK.out) (one_no HR5.out))
            go_wp2_with fail
            go_ret2
            exact LfPost.no HRR.out (HK.out.tr K5.out)
          · have hgd : Rg.Good n ∧ hexL n = p.data.toList := one_yes HR5.out
            have hxl : xs.length ≤ 1048576 := by have := HR.out.len; omega
            obtain ⟨g3, cap3, w6, hr, hk6, hat, hlt6, ho6⟩ := run_app_f (x := n) (HO.out.kp0 K5.out) (Nat.le_trans HK.out.size K5.out.size) hxl
            have hk6' : Kp [g2] w5 w6 := by simpa [Value.ownBlock] using hk6
            have h2W := (HO.out.lt g2 rfl).1
            have hsz5 := K5.out.size
            have HG6 : Hid (g3 ≠ g ∧ g < w6.heap.size) := Lib.hid ⟨by
              rcases hat with hat | hat
              · have e3 : g2 = g3 := by simpa [Value.ownBlock] using hat
                rw [← e3]; exact HG.out.1
              · have := HG.out.2; omega, Nat.lt_of_lt_of_le HG.out.2 (Nat.le_trans hsz5 hk6'.size)⟩
            have HS6 := Lib.hid ((HS.out.kp K5.out).keep hk6' (by intro a ha; injection ha with ha; subst ha; simp; exact fun e => HG.out.1 e.symm))
            have HK6 := Lib.hid ((HK.out.tr K5.out).later hk6' (by intro t ht; simp at ht; omega))
            have HR6 := Lib.hid (HR.out.succ HPK.out hgd.1 hgd.2)
            have HO6 := Lib.hid (show OwnF W.heap.size w6 (.slice (some ⟨g3, 0, none⟩) (xs ++ [n]).length cap3) (xs ++ [n]) by rw [List.length_append]; exact ho6)
            clear hk6 hk6' hat hlt6 ho6 h2W hsz5 hgd
            go_wp2_with (at_builtin; refine wpList_appE (by rfl) _ _ 28 (by rfl) (by exact hr) ?_)
            go_wp2_with fail
            go_roundw
            case rel => exact ⟨k + 1, g3, cap3, xs ++ [n], by simp, by go_num, by omega, HG6, HR6, HO6, HS6, HK6⟩
            case measure => simp [intOf]; omega
        · obtain rfl : k = P.length := by omega
          have HRR := Lib.hid (show Rn s.data.toList xs true from HR.out.all HN.out (parts_len HP.out) h64)
          go_wp2_with fail
          go_ret2
          exact LfPost.yes HRR.out HK.out HO.out
end Go.Proofs.YtmlocepflcfkmaaDoor
