/-
  A number read off its decimal text: the reference's and the program's functions. Conditions: the text is not too long; Go's powers of ten lie as the library lays them, its two errors as interface values.
-/
import Derived.Test.YtmlocepflcfkmaaDoorDecW
import Derived.Test.YtmlocepflcfkmaaDoorRdL
import Derived.Test.YtmlocepflcfkmaaDoorIn
import Derived.Test.YtmlocepflcfkmaaDoorLaid
import Derived.Test.YtmlocepflcfkmaaDoorLaidE
import Derived.Test.YtmlocepflcfkmaaDoorDecI
import Derived.Laws.Strings
import Derived.Lib.AtoiErrMem
import Derived.WideShapes
namespace Go.Proofs.YtmlocepflcfkmaaDoor
set_option linter.unusedVariables false
set_option linter.unusedSimpArgs false
open Go.RowKit Mem Dec

/-- What both hand back: what is read; memory is as it was but for new blocks. -/
def RdPost (l : List UInt8) (w : World) (e : Ending) (w' : World) : Prop := ∃ n ok, e = .returned (.tuple #[.int .i64 n, .bool ok]) ∧ Rd l n ok ∧ Kp [] w w'
theorem RdPost.mk {l : List UInt8} {w w' : World} {n : Int} {ok : Bool} (h : Rd l n ok) (hk : Kp [] w w') : RdPost l w (.returned (.tuple #[.int .i64 n, .bool ok])) w' := ⟨n, ok, rfl, h, hk⟩

theorem inV {n : Int} : inB n (-1000000000000000) 1000000000000000 = true ↔ Val n := inB_iff

theorem str_iff (l : List UInt8) (s : ByteArray) : (⟨l.toArray⟩ : ByteArray) = s ↔ l = s.data.toList := by
  constructor
  · intro h; rw [← h]
  · intro h; rw [h]
theorem str_neq {S s : ByteArray} (h : ¬ S = s) : (S.toList == s.toList) = false := by
  rw [ByteArray.toList_eq, ByteArray.toList_eq]
  refine beq_eq_false_iff_ne.2 (fun e => h ?_)
  exact Go.WideShapes.bytes_inj e
theorem head_iff (s : ByteArray) (h : 0 < s.size) : s.data.toList.head? = some 45 ↔ s[0].toNat = 45 := by
  have e : s.data.toList.head? = some s[0] := by
    have h2 : 0 < s.data.toList.length := h
    rw [List.head?_eq_getElem?, List.getElem?_eq_getElem h2]; rfl
  rw [e]
  constructor
  · intro h; injection h with h; rw [h]; rfl
  · intro h
    congr 1
    exact UInt8.toNat_inj.1 h

set_option maxRecDepth 100000 in
set_option maxHeartbeats 2000000 in
theorem value_spec (s : ByteArray) (hs : s.size ≤ 1048576) (W : World) : Calls Tryd.prog 52 #[.string s] W (RdPost s.data.toList W) := by
  have hsz : s.data.toList.length = s.size := rfl
  have HS := Lib.hid hsz
  clear hsz
  by_cases h1 : s.size < 1
  · have HR := Lib.hid (Rd.len (l := s.data.toList) (.inl (by rw [HS.out]; exact h1)))
    have h0 : s.size = 0 := by omega
    have h2 : decide ((s.size : Int) < 1) = true := by simp; omega
    clear h1 h0
    go_enter Tryd.func52, Tryd.ntmps52
    go_wp2
    go_ret2
    exact RdPost.mk HR.out (Kp.refl _)
  · by_cases h17 : 17 < s.size
    · have HR := Lib.hid (Rd.len (l := s.data.toList) (.inr (by rw [HS.out]; exact h17)))
      go_enter Tryd.func52, Tryd.ntmps52
      go_wp2
      go_ret2
      exact RdPost.mk HR.out (Kp.refl _)
    · have hp : 0 < s.size := by omega
      go_enter Tryd.func52, Tryd.ntmps52
      go_wp2
      go_loop [4, 5] (fun n i => ∃ k : Nat, k ≤ s.size ∧ i = .int .i64 (k : Int) ∧ n = .int .i64 ((dv (s.data.toList.take k) : Nat) : Int)) (fun _ i => s.size - (intOf i).toNat)
      case atStart => exact ⟨0, Nat.zero_le _, rfl, rfl⟩
      case round =>
        obtain ⟨k, hk, rfl, rfl⟩ := hrel
        have hlt0 := dv_lt (s.data.toList.take k)
        have hd9 : dv (s.data.toList.take k) < 100000000000000000 := Nat.lt_of_lt_of_le hlt0 (Nat.le_trans (Nat.pow_le_pow_right (by decide) (show (s.data.toList.take k).length ≤ 17 by have := List.length_take_le k s.data.toList; omega)) (by decide))
        clear hlt0
        by_cases hlt : k < s.size
        · have hts : s.data.toList.take (k + 1) = s.data.toList.take k ++ [s[k]] := by
            rw [List.take_succ_eq_append_getElem (by simpa using hlt)]; rfl
          have HN := Lib.hid (show dv (s.data.toList.take (k + 1)) = dvF (dv (s.data.toList.take k)) s[k] by rw [hts, dv_snoc])
          clear hts
          generalize dv (s.data.toList.take k) = D at *
          by_cases ha : 48 ≤ s[k].toNat
          · by_cases hb : s[k].toNat ≤ 57
            · have HE := Lib.hid (show dv (s.data.toList.take (k + 1)) = 10 * D + (s[k].toNat - 48) by rw [HN.out]; unfold dvF; rw [if_pos ⟨ha, hb⟩])
              go_wp2
              go_round
              case rel => exact ⟨k + 1, by omega, by go_num, by rw [HE.out]; congr 1; omega⟩
              case measure => simp [intOf]; omega
            · have HE := Lib.hid (show dv (s.data.toList.take (k + 1)) = D by rw [HN.out]; unfold dvF; rw [if_neg (by omega)])
              go_wp2
              go_round
              case rel => exact ⟨k + 1, by omega, by go_num, by rw [HE.out]⟩
              case measure => simp [intOf]; omega
          · have HE := Lib.hid (show dv (s.data.toList.take (k + 1)) = D by rw [HN.out]; unfold dvF; rw [if_neg (by omega)])
            go_wp2
            go_round
            case rel => exact ⟨k + 1, by omega, by go_num, by rw [HE.out]⟩
            case measure => simp [intOf]; omega
        · have hke : k = s.size := by omega
          subst hke
          clear hlt hk
          obtain ⟨D, hD⟩ : ∃ D, dv (s.data.toList.take s.size) = D := ⟨_, rfl⟩
          have HD := Lib.hid (show dv s.data.toList = D by rw [← hD, List.take_of_length_le (by rw [HS.out]; exact Nat.le_refl _)])
          rw [hD] at hd9
          rw [hD]
          clear hD
          obtain ⟨V, hV⟩ : ∃ V, vl s.data.toList = V := ⟨_, rfl⟩
          have HV := Lib.hid hV
          clear hV
          by_cases h45 : s[0].toNat = 45
          · have HVV := Lib.hid (show -(D : Int) = V by rw [← HV.out]; unfold vl; rw [if_pos ((head_iff s hp).2 h45), HD.out])
            have HT := Lib.hid (str_iff (Lib.itoa (-(D : Int))) s)
            obtain ⟨S, hS⟩ : ∃ S : ByteArray, (⟨(Lib.itoa (-(D : Int))).toArray⟩ : ByteArray) = S := ⟨_, rfl⟩
            have HSS := Lib.hid hS
            clear hS
            go_wp2_with fail
            refine (in_spec (-(D : Int)) _ _ _).mono ?_
            rintro e w1 ⟨rfl, rfl⟩
            cases hin : inB (-(D : Int)) (-1000000000000000) 1000000000000000
            · have HR := Lib.hid (Rd.no_vl (l := s.data.toList) (fun h => by rw [HV.out, ← HVV.out] at h; rw [inV.2 h.1] at hin; cases hin))
              go_wp2_with fail
              go_ret2
              exact RdPost.mk HR.out (Kp.refl _)
            · have HI := Lib.hid (inV.1 hin)
              go_wp2_with fail
              refine (dec_spec (-(D : Int)) (by omega) (by omega) _).mono ?_
              rw [HSS.out]
              rintro e w2 ⟨rfl, hk2⟩
              have K2 := Lib.hid hk2
              clear hk2
              by_cases hq : S = s
              · have HR := Lib.hid (Rd.yes (l := s.data.toList) HI.out (HT.out.1 (by rw [HSS.out]; exact hq)))
                subst hq
                go_wp2_with fail
                go_ret2
                exact RdPost.mk HR.out K2.out
              · have HR := Lib.hid (Rd.no_vl (l := s.data.toList) (fun h => by rw [HV.out, ← HVV.out] at h; exact hq (by rw [← HSS.out]; exact HT.out.2 h.2)))
                have q1 := str_neq hq
                go_wp2_with fail
                go_ret2
                exact RdPost.mk HR.out K2.out
          · have HVV := Lib.hid (show (D : Int) = V by rw [← HV.out]; unfold vl; rw [if_neg (fun h => h45 ((head_iff s hp).1 h)), HD.out])
            have HT := Lib.hid (str_iff (Lib.itoa (D : Int)) s)
            obtain ⟨S, hS⟩ : ∃ S : ByteArray, (⟨(Lib.itoa (D : Int)).toArray⟩ : ByteArray) = S := ⟨_, rfl⟩
            have HSS := Lib.hid hS
            clear hS
            go_wp2_with fail
            refine (in_spec (D : Int) _ _ _).mono ?_
            rintro e w1 ⟨rfl, rfl⟩
            cases hin : inB (D : Int) (-1000000000000000) 1000000000000000
            · have HR := Lib.hid (Rd.no_vl (l := s.data.toList) (fun h => by rw [HV.out, ← HVV.out] at h; rw [inV.2 h.1] at hin; cases hin))
              go_wp2_with fail
              go_ret2
              exact RdPost.mk HR.out (Kp.refl _)
            · have HI := Lib.hid (inV.1 hin)
              go_wp2_with fail
              refine (dec_spec (D : Int) (by omega) (by omega) _).mono ?_
              rw [HSS.out]
              rintro e w2 ⟨rfl, hk2⟩
              have K2 := Lib.hid hk2
              clear hk2
              by_cases hq : S = s
              · have HR := Lib.hid (Rd.yes (l := s.data.toList) HI.out (HT.out.1 (by rw [HSS.out]; exact hq)))
                subst hq
                go_wp2_with fail
                go_ret2
                exact RdPost.mk HR.out K2.out
              · have HR := Lib.hid (Rd.no_vl (l := s.data.toList) (fun h => by rw [HV.out, ← HVV.out] at h; exact hq (by rw [← HSS.out]; exact HT.out.2 h.2)))
                have q1 := str_neq hq
                go_wp2_with fail
                go_ret2
                exact RdPost.mk HR.out K2.out

theorem value_pub (s : ByteArray) (hs : s.size ≤ 1048576) (W : World) : Calls Tryd.prog 33 #[.string s] W (RdPost s.data.toList W) := by
  go_enter Tryd.func33, Tryd.ntmps33
  go_wp2_with fail
  refine (value_spec s hs _).mono ?_
  rintro e w1 ⟨n, ok, rfl, hr, hk⟩
  have HR := Lib.hid hr
  have K := Lib.hid hk
  clear hr hk
  go_wp2_with fail
  go_ret2
  exact RdPost.mk HR.out K.out

theorem kp_bytes {w w' : World} (h : w' = w ∨ ∃ t, w' = Lib.bytesWorld w 5 t) : Kp [] w w' := by
  rcases h with rfl | ⟨t, rfl⟩
  · exact Kp.refl _
  · exact Kp.of_below (Lib.bytesWorld_below _ _ _)

set_option maxRecDepth 100000 in
set_option maxHeartbeats 2000000 in
theorem value_impl (s : ByteArray) (hs : s.size ≤ 1048576) (W : World) (ht : Tens W) (he : Errs W) : Calls Tryd.prog 34 #[.string s] W (RdPost s.data.toList W) := by
  have HT := Lib.hid ht
  have HE := Lib.hid he
  have HZ := Lib.hid hs
  clear ht he hs
  rcases hp : Lib.parseIntB 64 s.data.toList with v | _ | _
  · have HP := Lib.hid hp
    clear hp
    obtain ⟨S, hS⟩ : ∃ S : ByteArray, (⟨(Lib.itoa v).toArray⟩ : ByteArray) = S := ⟨_, rfl⟩
    have HSS := Lib.hid hS
    have HI := Lib.hid (str_iff (Lib.itoa v) s)
    clear hS
    go_enter Tryd.func34, Tryd.ntmps34
    go_wp2_with fail
    refine (Tryd.strconv_ParseInt_10_at64_ok s (by have := HZ.out; omega) v HP.out _).mono ?_
    rintro e w1 ⟨rfl, hk1⟩
    have K1 := Lib.hid (kp_bytes hk1)
    clear hk1
    go_wp2_with fail
    refine (in_impl v _ _ _).mono ?_
    rintro e w2 ⟨rfl, rfl⟩
    cases hin : inB v (-1000000000000000) 1000000000000000
    · have HR := Lib.hid (Rd.no_ok HP.out (fun h => by rw [inV.2 h.1] at hin; cases hin))
      go_wp2_with fail
      go_ret2
      exact RdPost.mk HR.out K1.out
    · have HV := Lib.hid (inV.1 hin)
      go_wp2_with fail
      refine (dec_impl2 v (by have := HV.out.1; omega) (by have := HV.out.2; omega) _ (HT.out.kp K1.out)).mono ?_
      rw [HSS.out]
      rintro e w2 ⟨rfl, hk2⟩
      have K2 := Lib.hid (K1.out.tr hk2)
      clear hk2
      by_cases hq : S = s
      · have HR := Lib.hid (Rd.yes (l := s.data.toList) HV.out (HI.out.1 (by rw [HSS.out]; exact hq)))
        subst hq
        go_wp2_with fail
        go_ret2
        exact RdPost.mk HR.out K2.out
      · have HR := Lib.hid (Rd.no_ok HP.out (fun h => hq (by rw [← HSS.out]; exact HI.out.2 h.2)))
        have q1 := str_neq hq
        go_wp2_with fail
        go_ret2
        exact RdPost.mk HR.out K2.out
  · have HR := Lib.hid (Rd.no_err (l := s.data.toList) (fun v e => by rw [hp] at e; cases e))
    have HP := Lib.hid hp
    clear hp
    obtain ⟨tp, p, hvar⟩ := HE.out.syn
    have HVR := Lib.hid hvar
    clear hvar
    go_enter Tryd.func34, Tryd.ntmps34
    go_wp2_with fail
    refine (Tryd.strconv_ParseInt_10_at64_syntax_var s (by have := HZ.out; omega) HP.out tp p _ HVR.out).mono ?_
    rintro e w1 ⟨N, rfl, _, _, hb⟩
    have K1 := Lib.hid (Kp.of_below hb)
    clear hb
    go_wp2_with fail
    go_ret2
    exact RdPost.mk HR.out K1.out
  · have HR := Lib.hid (Rd.no_err (l := s.data.toList) (fun v e => by rw [hp] at e; cases e))
    have HP := Lib.hid hp
    clear hp
    obtain ⟨tp, p, hvar⟩ := HE.out.rng
    have HVR := Lib.hid hvar
    clear hvar
    go_enter Tryd.func34, Tryd.ntmps34
    go_wp2_with fail
    refine (Tryd.strconv_ParseInt_10_at64_range_var s (by have := HZ.out; omega) HP.out tp p _ HVR.out).mono ?_
    rintro e w1 ⟨N, rfl, _, _, hb⟩
    have K1 := Lib.hid (Kp.of_below hb)
    clear hb
    generalize Lib.intSat 64 s.data.toList = I
    go_wp2_with fail
    go_ret2
    exact RdPost.mk HR.out K1.out
end Go.Proofs.YtmlocepflcfkmaaDoor
