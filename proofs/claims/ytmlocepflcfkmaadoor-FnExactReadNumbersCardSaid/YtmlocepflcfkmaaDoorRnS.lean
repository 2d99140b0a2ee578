/-
  The numbers with a text of hexadecimal digits: the reference's function. Conditions: the text is not too long.
-/
import Derived.Test.YtmlocepflcfkmaaDoorRn
namespace Go.Proofs.YtmlocepflcfkmaaDoor
set_option linter.unusedVariables false
set_option linter.unusedSimpArgs false
open Go.RowKit Mem Dec Hex Rg Flo

/-- The first i digits are read. -/
structure Pl (l : List UInt8) (i v : Nat) : Prop where
  val : vlH 0 (l.take i) = some v
  lt : v < 16 ^ i
theorem Pl.zero (l : List UInt8) : Pl l 0 0 := ⟨by simp [vlH], by decide⟩
theorem Pl.succ {l : List UInt8} {i v d : Nat} {c : UInt8} (h : Pl l i v) (hc : l[i]? = some c) (hd : dgv c = some d) : Pl l (i + 1) (16 * v + d) := by
  have hl : i < l.length := (List.getElem?_eq_some_iff.1 hc).1
  have e : vlH 0 (l.take (i + 1)) = some (16 * v + d) := by
    rw [List.take_add_one, hc]
    simp only [Option.toList_some]
    rw [vlH_snoc, h.val]
    simp only []
    rw [hd]
  exact ⟨e, by have := (hxk_vlH (i + 1) _ _ (by rw [List.length_take]; omega) e).1; exact this⟩
theorem vlH_bad {c : UInt8} (hc : dgv c = none) : ∀ (l r : List UInt8) (a : Nat), vlH a (l ++ c :: r) = none
  | [], r, a => by rw [List.nil_append, vlH, hc]
  | x :: l, r, a => by
    rw [List.cons_append, vlH]
    cases dgv x with
    | none => rfl
    | some d => exact vlH_bad hc l r _
theorem Pl.bad {l : List UInt8} {i : Nat} {c : UInt8} (hc : l[i]? = some c) (hd : dgv c = none) : vlH 0 l = none := by
  have hl : i < l.length := (List.getElem?_eq_some_iff.1 hc).1
  have e : l = l.take i ++ c :: l.drop (i + 1) := by
    have e2 : l.drop i = c :: l.drop (i + 1) := by
      rw [List.drop_eq_getElem_cons hl]
      congr 1
      exact Option.some.inj ((List.getElem?_eq_getElem hl).symm.trans hc)
    rw [← e2, List.take_append_drop]
  rw [e]
  exact vlH_bad hd _ _ _
theorem dgv_dec {c : UInt8} (h1 : 48 ≤ c.toNat) (h2 : c.toNat ≤ 57) : dgv c = some (c.toNat - 48) := by unfold dgv; rw [if_pos ⟨h1, h2⟩]
theorem dgv_hex {c : UInt8} (h1 : 97 ≤ c.toNat) (h2 : c.toNat ≤ 102) : dgv c = some (c.toNat - 87) := by unfold dgv; rw [if_neg (by omega), if_pos ⟨h1, h2⟩]
theorem dgv_no {c : UInt8} (h0 : ¬ (48 ≤ c.toNat ∧ c.toNat ≤ 57)) (h1 : ¬ (97 ≤ c.toNat ∧ c.toNat ≤ 102)) : dgv c = none := by unfold dgv; rw [if_neg h0, if_neg h1]

set_option maxRecDepth 100000 in
set_option maxHeartbeats 4000000 in
theorem nread_spec (s : ByteArray) (hs : s.size ≤ 1048576) (W : World) : Calls Tryd.prog 37 #[.string s] W (LfPost (Rn s.data.toList) W) := by
  have HO0 := Lib.hid (ownF_mt (H := W.heap.size) W (Nat.le_refl _))
  have HK0 := Lib.hid ((Kp.refl W).alloc (.cells #[] 52))
  by_cases hN : s = noneB
  · have HR := Lib.hid (show Rn s.data.toList [] true from R.none_ ((noneB_iff s).1 hN))
    subst hN
    go_enter Tryd.func37, Tryd.ntmps37
    go_wp2_with fail
    go_ret2
    exact LfPost.yes HR.out HK0.out HO0.out
  · have HN := Lib.hid (show s.data.toList ≠ noneL from fun h => hN ((noneB_iff s).2 h))
    have q1 := noneB_neq hN
    go_enter Tryd.func37, Tryd.ntmps37
    go_wp2_with fail
    clear q1 hN
    refine (cut_spec s hs _).mono ?_
    rintro e w1 ⟨g, cap, P, rfl, hp, hsl, hk1, hg, hg'⟩
    have HP := Lib.hid hp
    have HL := Lib.hid hsl
    have HO1 := Lib.hid (HO0.out.kp0 hk1)
    have HK1 := Lib.hid (HK0.out.tr hk1)
    have hgg : W.heap.size + 1 ≤ g := by simpa using hg
    clear hp hsl hk1 hg HO0 HK0
    by_cases h64 : 256 < P.length
    · have HR := Lib.hid (show Rn s.data.toList [] false from R.many HN.out (by rw [parts_len HP.out]; exact h64))
      go_wp2_with fail
      go_ret2
      exact LfPost.no HR.out HK1.out
    · go_wp2_with fail
      go_loopw [4, 6] (fun o i wr => ∃ (k g2 cap2 : Nat) (xs : List Nat), o = .slice (some ⟨g2, 0, none⟩) xs.length cap2 ∧ i = .int .i64 (k : Int) ∧ k ≤ P.length ∧ Hid (g2 ≠ g ∧ g < wr.heap.size) ∧ Hid (RkN s.data.toList k xs) ∧ Hid (OwnF W.heap.size wr (.slice (some ⟨g2, 0, none⟩) xs.length cap2) xs) ∧ Hid (Sl wr (some ⟨g, 0, none⟩) P.length (P.map Value.string)) ∧ Hid (Kp [] W wr)) (fun _ i _ => P.length - (intOf i).toNat)
      case atStart => exact ⟨0, _, _, [], rfl, rfl, Nat.zero_le _, Lib.hid ⟨by omega, hg'⟩, Lib.hid (Rk.zero _), HO1, HL, HK1⟩
      case round =>
        obtain ⟨k, g2, cap2, xs, rfl, rfl, hk, HG, HR, HO, HS, HK⟩ := hrel
        by_cases hlt : k < P.length
        · obtain ⟨p, _, hcp, hpk, hpl⟩ := part_at HS.out HP.out hlt
          have HPK := Lib.hid hpk
          have HPM := Lib.hid (List.mem_of_getElem? hpk)
          clear hpk hpl
          by_cases h8 : p.size = 8
          · have H8 := Lib.hid h8
            clear h8
            have q8 : ((p.size : Int) == 8) = true := by rw [H8.out]; rfl
            have q8' : ((p.size : Int) != 8) = false := by rw [H8.out]; rfl
            go_wp2_with fail
            clear q8 q8'
            go_loopw [7, 8] (fun n j wr2 => ∃ (i : Nat) (a : Int) (v : Nat), n = .int .i64 a ∧ j = .int .i64 (i : Int) ∧ i ≤ 8 ∧ wr2 = wr ∧ Hid (a = (v : Int) ∧ Pl p.data.toList i v)) (fun _ j _ => 8 - (intOf j).toNat)
            case atStart => exact ⟨0, 0, 0, rfl, rfl, by omega, rfl, Lib.hid ⟨rfl, Pl.zero _⟩⟩
            case round =>
              obtain ⟨i, a, v, rfl, rfl, hi, rfl, hh⟩ := hrel
              have HA := Lib.hid hh.out.1
              have HV := Lib.hid hh.out.2
              clear hh
              by_cases hi8 : i < 8
              · have hlt7 : v < 268435456 := by
                  have h1 := HV.out.lt
                  have h2 : 16 ^ i ≤ 16 ^ 7 := Nat.pow_le_pow_right (by decide) (by omega)
                  exact Nat.lt_of_lt_of_le h1 (Nat.le_trans h2 (by decide))
                have a0 : 0 ≤ a := by have := HA.out; omega
                have a1 : a < 268435456 := by have := HA.out; omega
                have hip : i < p.size := by have := H8.out; omega
                have HC := Lib.hid (dl_at p hip)
                obtain ⟨C, hC⟩ : ∃ C, p[i].toNat = C := ⟨_, rfl⟩
                have hc256 : C < 256 := by rw [← hC]; exact p[i].toNat_lt
                have HCC := Lib.hid hC
                by_cases hdig : 48 ≤ C ∧ C ≤ 57
                · obtain ⟨hd0, hd1⟩ := hdig
                  have hna : ¬ ((97 : Int) ≤ (C : Int)) := by omega
                  have hN : Hid (16 * a + ((C : Int) - 48) = ((16 * v + (C - 48) : Nat) : Int) ∧ Pl p.data.toList (i + 1) (16 * v + (C - 48))) := Lib.hid ⟨by have := HA.out; omega, HV.out.succ HC.out (by have := dgv_dec (c := p[i]) (by rw [HCC.out]; exact hd0) (by rw [HCC.out]; exact hd1); rw [HCC.out] at this; exact this)⟩
                  go_wp2_with fail
                  go_roundw
                  case rel => exact ⟨i + 1, 16 * a + ((C : Int) - 48), 16 * v + (C - 48), by go_num, by go_num, by omega, (by first | rfl | trivial), hN⟩
                  case measure => simp [intOf]; omega
                · by_cases hx : 97 ≤ C ∧ C ≤ 102
                  · obtain ⟨hx0, hx1⟩ := hx
                    have hnd : ¬ ((C : Int) ≤ 57) := by omega
                    have hN : Hid (16 * a + ((C : Int) - 87) = ((16 * v + (C - 87) : Nat) : Int) ∧ Pl p.data.toList (i + 1) (16 * v + (C - 87))) := Lib.hid ⟨by have := HA.out; omega, HV.out.succ HC.out (by have := dgv_hex (c := p[i]) (by rw [HCC.out]; exact hx0) (by rw [HCC.out]; exact hx1); rw [HCC.out] at this; exact this)⟩
                    clear hdig
                    go_wp2_with fail
                    go_roundw
                    case rel => exact ⟨i + 1, 16 * a + ((C : Int) - 87), 16 * v + (C - 87), by go_num, by go_num, by omega, (by first | rfl | trivial), hN⟩
                    case measure => simp [intOf]; omega
                  · have hF : Hid (Rn s.data.toList [] false) := Lib.hid (R.bad HN.out HPM.out (one_no (One8.digit (Pl.bad HC.out (dgv_no (by rw [HCC.out]; exact hdig) (by rw [HCC.out]; exact hx))) 0)))
                    have HDG := Lib.hid hdig
                    have HX := Lib.hid hx
                    clear hdig hx
                    by_cases h1 : 48 ≤ C
                    · have hnd : ¬ ((C : Int) ≤ 57) := by have := HDG.out; omega
                      by_cases h2 : 97 ≤ C
                      · have hnx : ¬ ((C : Int) ≤ 102) := by have := HX.out; omega
                        go_wp2_with fail
                        go_ret2
                        exact LfPost.no hF.out HK.out
                      · go_wp2_with fail
                        go_ret2
                        exact LfPost.no hF.out HK.out
                    · have h2 : ¬ ((97 : Int) ≤ (C : Int)) := by omega
                      go_wp2_with fail
                      go_ret2
                      exact LfPost.no hF.out HK.out
              · obtain rfl : i = 8 := by omega
                have HVV := Lib.hid (show vlH 0 p.data.toList = some v by have := HV.out.val; rwa [List.take_of_length_le (by rw [dl_len, H8.out]; exact Nat.le_refl _)] at this)
                have hlt8 : v < 4294967296 := by have := HV.out.lt; rw [show (16 : Nat) ^ 8 = 4294967296 by decide] at this; exact this
                obtain rfl := HA.out
                have hfr : ∀ w, Calls Tryd.prog 57 #[.int .i64 (v : Int)] w fun e w' => e = .returned (.float .f32 v) ∧ w = w' := fun w => by
                  have := from_low (v : Int) (by omega) (by omega) w
                  rw [Int.toNat_natCast] at this
                  exact this
                go_wp2_with fail
                refine (hfr _).mono ?_
                rintro e w5 ⟨rfl, rfl⟩
                go_wp2_with fail
                refine (bits_spec (rep_tell .f32 v hlt8) _).mono ?_
                rintro e w5 ⟨rfl, rfl⟩
                by_cases hbv : bitsI v = (v : Int)
                · rw [hbv]
                  have hgd := one_yes (One8.yes (by rw [dl_len, H8.out]) HVV.out hbv)
                  have hxl : xs.length ≤ 1048576 := by have := HR.out.len; omega
                  obtain ⟨g3, cap3, w6, hr, hk6, hat, hlt6, ho6⟩ := run_app_f (x := v) HO.out HK.out.size hxl
                  have hk6' := hk6
                  simp only [Value.ownBlock, Option.toList_some] at hk6'
                  have h2W := (HO.out.lt g2 rfl).1
                  have HG6 : Hid (g3 ≠ g ∧ g < w6.heap.size) := Lib.hid ⟨by
                    rcases hat with hat | hat
                    · have e3 : g2 = g3 := by simpa [Value.ownBlock] using hat
                      rw [← e3]; exact HG.out.1
                    · have := HG.out.2; omega, Nat.lt_of_lt_of_le HG.out.2 hk6'.size⟩
                  have HS6 := Lib.hid (HS.out.keep hk6' (by intro a ha; injection ha with ha; subst ha; simp; exact fun e => HG.out.1 e.symm))
                  have HK6 := Lib.hid (HK.out.later hk6' (by intro t ht; simp at ht; omega))
                  have HR6 := Lib.hid (HR.out.succ HPK.out hgd.1 hgd.2)
                  have HO6 := Lib.hid (show OwnF W.heap.size w6 (.slice (some ⟨g3, 0, none⟩) (xs ++ [v]).length cap3) (xs ++ [v]) by rw [List.length_append]; exact ho6)
                  clear hk6 hk6' hat hlt6 ho6 h2W hgd hfr hbv
                  go_wp2_with (at_builtin; refine wpList_appE (by rfl) _ _ 28 (by rfl) (by exact hr) ?_)
                  go_wp2_with fail
                  go_roundw
                  case rel => exact ⟨k + 1, g3, cap3, xs ++ [v], by simp, by go_num, by omega, HG6, HR6, HO6, HS6, HK6⟩
                  case measure => simp [intOf]; omega
                · have hF : Hid (Rn s.data.toList [] false) := Lib.hid (R.bad HN.out HPM.out (one_no (One8.bits HVV.out hbv 0)))
                  have hb1 : (bitsI v == (v : Int)) = false := beq_eq_false_iff_ne.2 hbv
                  have hb2 : (bitsI v != (v : Int)) = true := bne_iff_ne.2 hbv
                  clear hbv hfr
                  go_wp2_with fail
                  go_ret2
                  exact LfPost.no hF.out HK.out
          · have hF : Hid (Rn s.data.toList [] false) := Lib.hid (R.bad HN.out HPM.out (one_no (One8.len (by rw [dl_len]; exact h8) 0)))
            have q8 : ((p.size : Int) == 8) = false := by rw [beq_eq_false_iff_ne]; omega
            have q8' : ((p.size : Int) != 8) = true := by rw [bne_iff_ne]; omega
            clear h8
            go_wp2_with fail
            go_ret2
            exact LfPost.no hF.out HK.out
        · obtain rfl : k = P.length := by omega
          have HRR := Lib.hid (show Rn s.data.toList xs true from HR.out.all HN.out (parts_len HP.out) (by omega))
          go_wp2_with fail
          go_ret2
          exact LfPost.yes HRR.out HK.out HO.out

theorem readn_spec (s : ByteArray) (hs : s.size ≤ 1048576) (W : World) : Calls Tryd.prog 15 #[.string s] W (LfPost (Rn s.data.toList) W) := by
  go_enter Tryd.func15, Tryd.ntmps15
  go_wp2_with fail
  refine (nread_spec s hs _).mono ?_
  rintro e w1 ⟨xs, ok, A, c, h1, rfl, h2, h3⟩
  have H1 := Lib.hid h1
  have H2 := Lib.hid h2
  have H3 := Lib.hid h3
  clear h1 h2 h3
  go_wp2_with fail
  go_ret2
  exact ⟨xs, ok, A, c, H1.out, rfl, H2.out, H3.out⟩
/-! ### Eight digits -/
set_option maxRecDepth 100000 in
set_option maxHeartbeats 2000000 in
theorem digits_spec (p : ByteArray) (h8 : p.size = 8) (W : World) : Calls Tryd.prog 61 #[.string p] W (UhPost p.data.toList W) := by
  have H8 := Lib.hid h8
  go_enter Tryd.func61, Tryd.ntmps61
  go_wp2_with fail
  go_loopw [4, 5] (fun n j wr2 => ∃ (i : Nat) (a : Int) (v : Nat), n = .int .i64 a ∧ j = .int .i64 (i : Int) ∧ i ≤ 8 ∧ wr2 = W ∧ Hid (a = (v : Int) ∧ Pl p.data.toList i v)) (fun _ j _ => 8 - (intOf j).toNat)
  case atStart => exact ⟨0, 0, 0, rfl, rfl, by omega, rfl, Lib.hid ⟨rfl, Pl.zero _⟩⟩
  case round =>
    obtain ⟨i, a, v, rfl, rfl, hi, rfl, hh⟩ := hrel
    have HA := Lib.hid hh.out.1
    have HV := Lib.hid hh.out.2
    clear hh
    by_cases hi8 : i < 8
    · have hlt7 : v < 268435456 := by
        have h1 := HV.out.lt
        have h2 : 16 ^ i ≤ 16 ^ 7 := Nat.pow_le_pow_right (by decide) (by omega)
        exact Nat.lt_of_lt_of_le h1 (Nat.le_trans h2 (by decide))
      have a0 : 0 ≤ a := by have := HA.out; omega
      have a1 : a < 268435456 := by have := HA.out; omega
      have hip : i < p.size := by have := H8.out; omega
      have HC := Lib.hid (dl_at p hip)
      obtain ⟨C, hC⟩ : ∃ C, p[i].toNat = C := ⟨_, rfl⟩
      have hc256 : C < 256 := by rw [← hC]; exact p[i].toNat_lt
      have HCC := Lib.hid hC
      by_cases hdig : 48 ≤ C ∧ C ≤ 57
      · obtain ⟨hd0, hd1⟩ := hdig
        have hna : ¬ ((97 : Int) ≤ (C : Int)) := by omega
        have hN : Hid (16 * a + ((C : Int) - 48) = ((16 * v + (C - 48) : Nat) : Int) ∧ Pl p.data.toList (i + 1) (16 * v + (C - 48))) := Lib.hid ⟨by have := HA.out; omega, HV.out.succ HC.out (by have := dgv_dec (c := p[i]) (by rw [HCC.out]; exact hd0) (by rw [HCC.out]; exact hd1); rw [HCC.out] at this; exact this)⟩
        go_wp2_with fail
        go_roundw
        case rel => exact ⟨i + 1, 16 * a + ((C : Int) - 48), 16 * v + (C - 48), by go_num, by go_num, by omega, (by first | rfl | trivial), hN⟩
        case measure => simp [intOf]; omega
      · by_cases hx : 97 ≤ C ∧ C ≤ 102
        · obtain ⟨hx0, hx1⟩ := hx
          have hnd : ¬ ((C : Int) ≤ 57) := by omega
          have hN : Hid (16 * a + ((C : Int) - 87) = ((16 * v + (C - 87) : Nat) : Int) ∧ Pl p.data.toList (i + 1) (16 * v + (C - 87))) := Lib.hid ⟨by have := HA.out; omega, HV.out.succ HC.out (by have := dgv_hex (c := p[i]) (by rw [HCC.out]; exact hx0) (by rw [HCC.out]; exact hx1); rw [HCC.out] at this; exact this)⟩
          clear hdig
          go_wp2_with fail
          go_roundw
          case rel => exact ⟨i + 1, 16 * a + ((C : Int) - 87), 16 * v + (C - 87), by go_num, by go_num, by omega, (by first | rfl | trivial), hN⟩
          case measure => simp [intOf]; omega
        · have hF : Hid (One8 p.data.toList 0 false) := Lib.hid (One8.digit (Pl.bad HC.out (dgv_no (by rw [HCC.out]; exact hdig) (by rw [HCC.out]; exact hx))) 0)
          have HDG := Lib.hid hdig
          have HX := Lib.hid hx
          clear hdig hx
          by_cases h1 : 48 ≤ C
          · have hnd : ¬ ((C : Int) ≤ 57) := by have := HDG.out; omega
            by_cases h2 : 97 ≤ C
            · have hnx : ¬ ((C : Int) ≤ 102) := by have := HX.out; omega
              go_wp2_with fail
              go_ret2
              exact ⟨0, false, rfl, hF.out, Kp.refl _⟩
            · go_wp2_with fail
              go_ret2
              exact ⟨0, false, rfl, hF.out, Kp.refl _⟩
          · have h2 : ¬ ((97 : Int) ≤ (C : Int)) := by omega
            go_wp2_with fail
            go_ret2
            exact ⟨0, false, rfl, hF.out, Kp.refl _⟩
    · obtain rfl : i = 8 := by omega
      have HVV := Lib.hid (show vlH 0 p.data.toList = some v by have := HV.out.val; rwa [List.take_of_length_le (by rw [dl_len, H8.out]; exact Nat.le_refl _)] at this)
      have hlt8 : v < 4294967296 := by have := HV.out.lt; rw [show (16 : Nat) ^ 8 = 4294967296 by decide] at this; exact this
      obtain rfl := HA.out
      have hfr : ∀ w, Calls Tryd.prog 57 #[.int .i64 (v : Int)] w fun e w' => e = .returned (.float .f32 v) ∧ w = w' := fun w => by
        have := from_low (v : Int) (by omega) (by omega) w
        rw [Int.toNat_natCast] at this
        exact this
      go_wp2_with fail
      refine (hfr _).mono ?_
      rintro e w5 ⟨rfl, rfl⟩
      go_wp2_with fail
      refine (bits_spec (rep_tell .f32 v hlt8) _).mono ?_
      rintro e w5 ⟨rfl, rfl⟩
      by_cases hbv : bitsI v = (v : Int)
      · rw [hbv]
        have HR := Lib.hid (One8.yes (by rw [dl_len, H8.out]) HVV.out hbv)
        clear hbv hfr
        go_wp2_with fail
        go_ret2
        exact ⟨v, true, rfl, HR.out, Kp.refl _⟩
      · have HR := Lib.hid (One8.bits HVV.out hbv 0)
        have hb1 : (bitsI v == (v : Int)) = false := beq_eq_false_iff_ne.2 hbv
        have hb2 : (bitsI v != (v : Int)) = true := bne_iff_ne.2 hbv
        clear hbv hfr
        go_wp2_with fail
        go_ret2
        exact ⟨0, false, rfl, HR.out, Kp.refl _⟩

/-! ### Two numbers in one part -/
namespace Rg
def tx16 (z : Nat × Nat) : List UInt8 := hexL z.1 ++ hexL z.2
def Good2 (z : Nat × Nat) : Prop := Rg.Good z.1 ∧ Rg.Good z.2
theorem tx16_len (z : Nat × Nat) : (tx16 z).length = 16 := by unfold tx16; rw [List.length_append, hexL_len, hexL_len]
theorem good2_inj (a b : Nat × Nat) (ha : Good2 a) (hb : Good2 b) (h : tx16 a = tx16 b) : a = b := by
  unfold tx16 at h
  have h1 := List.append_inj h (by rw [hexL_len, hexL_len])
  exact Prod.ext (good_inj _ _ ha.1 hb.1 h1.1) (good_inj _ _ ha.2 hb.2 h1.2)
abbrev One16 := One tx16 Good2
theorem one16 {p : List UInt8} (h16 : p.length = 16) {x y : Nat} {a b : Bool} (h1 : One8 (p.take 8) x a) (h2 : One8 (p.drop 8) y b) : One16 p (x, y) (a && b) := by
  have key : ∀ m, Good2 m → tx16 m = p → hexL m.1 = p.take 8 ∧ hexL m.2 = p.drop 8 := fun m _ e => by
    unfold tx16 at e
    rw [← e]
    exact ⟨by rw [List.take_left' (hexL_len _)], by rw [List.drop_left' (hexL_len _)]⟩
  rcases h1 with ⟨rfl, g1, t1⟩ | ⟨rfl, n1⟩
  · rcases h2 with ⟨rfl, g2, t2⟩ | ⟨rfl, n2⟩
    · refine .inl ⟨rfl, ⟨g1, g2⟩, ?_⟩
      show hexL x ++ hexL y = p
      rw [t1, t2, List.take_append_drop]
    · exact .inr ⟨rfl, fun m hm e => n2 m.2 hm.2 (key m hm e).2⟩
  · exact .inr ⟨by rfl, fun m hm e => n1 m.1 hm.1 (key m hm e).1⟩
theorem one16_len {p : List UInt8} (h : p.length ≠ 16) (z : Nat × Nat) : One16 p z false := .inr ⟨rfl, fun m _ e => h (by rw [← e]; exact tx16_len m)⟩
end Rg
theorem ext_take (p : ByteArray) : (p.extract 0 8).data.toList = p.data.toList.take 8 := by rw [Cut.ext_data]; simp
theorem ext_drop (p : ByteArray) (h : p.size = 16) : (p.extract 8 16).data.toList = p.data.toList.drop 8 := by
  rw [Cut.ext_data]
  exact List.take_of_length_le (by rw [List.length_drop, dl_len, h]; exact Nat.le_refl _)
theorem ext_s1 (p : ByteArray) (h : p.size = 16) : (p.extract 0 8).size = 8 := by rw [ByteArray.size_extract, h]; rfl
theorem ext_s2 (p : ByteArray) (h : p.size = 16) : (p.extract 8 16).size = 8 := by rw [ByteArray.size_extract, h]; rfl
end Go.Proofs.YtmlocepflcfkmaaDoor
