/-
  Numbers in decimal with commas between them: the reference's and the program's functions. Conditions: the slice reads as a list; Go's powers of ten lie as the library lays them.
-/
import Derived.Test.YtmlocepflcfkmaaDoorDecI
import Derived.Test.YtmlocepflcfkmaaDoorLtL
import Derived.Test.YtmlocepflcfkmaaDoorWithinJ
import Derived.Laws.Concat
namespace Go.Proofs.YtmlocepflcfkmaaDoor
set_option linter.unusedVariables false
set_option linter.unusedSimpArgs false
open Go.RowKit Mem Dec

abbrev MX : Int := 1000000000000000
/-- Are there few numbers, none too great? -/
abbrev lB (zs : List Int) : Bool := cntB zs 0 64 (-1000000000000000) 1000000000000000
theorem lB_yes {zs : List Int} (h : lB zs = true) : zs.length ≤ 64 ∧ ∀ z ∈ zs, Val z := by
  unfold lB cntB outB at h
  simp only [Bool.and_eq_true, decide_eq_true_eq, Bool.not_eq_true', List.any_eq_false] at h
  refine ⟨h.2.1, fun z hz => ?_⟩
  have := h.2.2 z hz
  simp at this
  exact inB_iff.1 this
theorem lB_no {zs : List Int} (h : outB zs (-1000000000000000) 1000000000000000 = true) : lB zs = false := by
  unfold lB cntB
  rw [h]; simp
theorem lB_len {zs : List Int} (h : outB zs (-1000000000000000) 1000000000000000 = false) : lB zs = decide (zs.length ≤ 64) := by
  unfold lB cntB
  rw [h]; simp

set_option maxHeartbeats 400000 in
theorem list_spec (A : Option Addr) (n c : Nat) (zs : List Int) (w : World) (h : Sl w A n (valsI zs)) (hn : n ≤ 1048576) :
    Calls Tryd.prog 44 #[.slice A n c] w fun e w' => e = .returned (.bool (lB zs)) ∧ w = w' := by
  have HA := Lib.hid h
  have HL := Lib.hid (show zs.length = n by rw [← valsI_len, h.len])
  clear h
  go_enter Tryd.func44, Tryd.ntmps44
  go_wp2
  go_loop [3] (fun i => ∃ k : Nat, k ≤ n ∧ i = .int .i64 k ∧ Ink zs (-1000000000000000) 1000000000000000 k) (fun i => n - (intOf i).toNat)
  case atStart => exact ⟨0, Nat.zero_le _, rfl, Ink.zero⟩
  case round =>
    obtain ⟨k, hk, rfl, HI⟩ := hrel
    have HI := Lib.hid HI
    by_cases hlt : k < n
    · obtain ⟨b, off, x, rfl, hb, HX, hcx⟩ := slI_at HA.out hlt
      cases hin : inB x (-1000000000000000) 1000000000000000
      · have HF := Lib.hid (lB_no (out_yes HX hin))
        go_wp2_with (go_at_call 63; refine (in_spec _ _ _ _).mono ?_; rintro e w' ⟨rfl, rfl⟩)
        go_ret
        exact ⟨ret_bool HF.out.symm, rfl⟩
      · have HN := Lib.hid (Ink.succ HI.out HX hin)
        go_wp2_with (go_at_call 63; refine (in_spec _ _ _ _).mono ?_; rintro e w' ⟨rfl, rfl⟩)
        go_round
        case rel => exact ⟨k + 1, by omega, by go_num, HN.out⟩
        case measure => simp [intOf]; omega
    · obtain rfl : n = k := by omega
      have HF := Lib.hid (lB_len (Ink.all HI.out HL.out))
      rw [HL.out] at HF
      by_cases h64 : n ≤ 64
      · have h2 : decide (n ≤ 64) = true := decide_eq_true h64
        go_wp2
        go_ret
        refine ⟨ret_bool ?_, rfl⟩
        rw [HF.out, h2]
        simp; omega
      · have h2 : decide (n ≤ 64) = false := decide_eq_false h64
        go_wp2
        go_ret
        refine ⟨ret_bool ?_, rfl⟩
        rw [HF.out, h2]
        simp; omega

/-- A string of bytes. -/
abbrev bst (l : List UInt8) : ByteArray := ⟨l.toArray⟩
theorem bst_size (l : List UInt8) : (bst l).size = l.length := by show l.toArray.size = _; simp
theorem bst_add (a b : List UInt8) : bst a ++ bst b = bst (a ++ b) := by
  show (⟨a.toArray⟩ : ByteArray) ++ ⟨b.toArray⟩ = ⟨(a ++ b).toArray⟩
  rw [ByteArray.mk_append_mk]
theorem run_cat (a b : List UInt8) (h : a.length + b.length ≤ 9223372036854775807) (w : World) : (Op.stringOp .add (bst a) (bst b)).run Tryd.prog w = .ok (.string (bst (a ++ b))) w := by
  rw [run_string_add_sum w _ _ (by rw [bst_size, bst_size]; exact h), bst_add]

set_option maxRecDepth 100000 in
set_option maxHeartbeats 2000000 in
theorem text_spec (A : Option Addr) (n c : Nat) (zs : List Int) (W : World) (h : Sl W A n (valsI zs)) (h0 : 0 < n) (hn : n ≤ 64) (hz : ∀ z ∈ zs, Val z) :
    Calls Tryd.prog 45 #[.slice A n c] W fun e w' => e = .returned (.string (bst (tx zs n))) ∧ Kp [] W w' := by
  have HA := Lib.hid h
  have HL := Lib.hid (show zs.length = n by rw [← valsI_len, h.len])
  have HZ := Lib.hid hz
  clear h hz
  obtain ⟨b, off, x, rfl, hb, HX, hcx⟩ := slI_at HA.out h0
  rw [Nat.add_zero] at hcx
  have hx := HZ.out x (List.mem_of_getElem? HX.out)
  have hxl := hx.1
  have hxr := hx.2
  clear hx
  obtain ⟨S, hS⟩ : ∃ S : ByteArray, (⟨(Lib.itoa x).toArray⟩ : ByteArray) = S := ⟨_, rfl⟩
  have HS := Lib.hid hS
  clear hS
  have hl0 : ((n : Int) == 0) = false := by simpa using (show ¬ n = 0 by omega)
  go_enter Tryd.func45, Tryd.ntmps45
  go_wp2_with fail
  refine (dec_spec x (by omega) (by omega) _).mono ?_
  rw [HS.out]
  rintro e w1 ⟨rfl, hk1⟩
  have K1 := Lib.hid hk1
  clear hk1 hcx
  have HS1 := Lib.hid (show bst (tx zs 1) = S by rw [tx_one HX.out]; exact HS.out)
  go_wp2_with fail
  go_loopw [3, 4] (fun o i wr => ∃ (k : Nat) (T : ByteArray), 1 ≤ k ∧ k ≤ n ∧ o = .string T ∧ i = .int .i64 (k : Int) ∧ bst (tx zs k) = T ∧ Kp [] W wr) (fun _ i _ => n - (intOf i).toNat)
  case atStart => exact ⟨1, S, Nat.le_refl _, h0, rfl, rfl, HS1.out, K1.out⟩
  case round =>
    obtain ⟨k, T, hk1, hk, rfl, rfl, hT, hkp⟩ := hrel
    have HT := Lib.hid hT
    have HK := Lib.hid hkp
    clear hT hkp
    by_cases hlt : k < n
    · obtain ⟨b, off, y, hA, hb, HY, hcy⟩ := slI_at (HA.out.kp HK.out) hlt
      injection hA with hA
      injection hA with e1 e2
      subst e1 e2
      have hy := HZ.out y (List.mem_of_getElem? HY.out)
      have hyl := hy.1
      have hyr := hy.2
      have hlen := (itoa_len hy).2
      have htl := tx_len HZ.out k
      clear hy
      obtain ⟨Y, hY⟩ : ∃ Y : ByteArray, (⟨(Lib.itoa y).toArray⟩ : ByteArray) = Y := ⟨_, rfl⟩
      obtain ⟨C, hC⟩ : ∃ C : ByteArray, bst (44 :: Lib.itoa y) = C := ⟨_, rfl⟩
      obtain ⟨T2, hT2⟩ : ∃ T2 : ByteArray, bst (tx zs (k + 1)) = T2 := ⟨_, rfl⟩
      have r1 : ∀ w, (Op.stringOp .add ⟨#[44]⟩ Y).run Tryd.prog w = .ok (.string C) w := fun w => by
        rw [← hY, ← hC]
        exact run_cat [44] (Lib.itoa y) (by simp; omega) w
      have r2 : ∀ w, (Op.stringOp .add T C).run Tryd.prog w = .ok (.string T2) w := fun w => by
        rw [← HT.out, ← hC, ← hT2, tx_succ hk1 HY.out]
        exact run_cat (tx zs k) (44 :: Lib.itoa y) (by rw [List.length_cons]; omega) w
      have HYY := Lib.hid hY
      have HT2 := Lib.hid hT2
      clear hY hC hT2 hlen htl
      go_wp2_with fail
      refine (dec_spec y (by omega) (by omega) _).mono ?_
      rw [HYY.out]
      rintro e w2 ⟨rfl, hk2⟩
      have K2 := Lib.hid (HK.out.tr hk2)
      clear hk2 hcy
      go_wp2_with fail
      go_roundw
      case rel => exact ⟨k + 1, T2, by omega, by omega, rfl, by go_num, HT2.out, K2.out⟩
      case measure => simp [intOf]; omega
    · obtain rfl : n = k := by omega
      go_wp2
      go_ret
      exact ⟨by rw [HT.out]; rfl, HK.out⟩
end Go.Proofs.YtmlocepflcfkmaaDoor
