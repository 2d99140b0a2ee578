/-
  Numbers' bits in hexadecimal with commas between them: the functions. Conditions: the slice reads as a list of floats; Go's table of trailing zeros lies as the library lays it.
-/
import Derived.Test.YtmlocepflcfkmaaDoorLtI
import Derived.Test.YtmlocepflcfkmaaDoorNtL
import Derived.Test.YtmlocepflcfkmaaDoorHexI
import Derived.Test.YtmlocepflcfkmaaDoorEqF
namespace Go.Proofs.YtmlocepflcfkmaaDoor
set_option linter.unusedVariables false
set_option linter.unusedSimpArgs false
open Go.RowKit Mem Dec Hex Flo

theorem hexs (b : Nat) (hb : b < 4294967296) (W : World) : Calls Tryd.prog 66 #[.float .f32 b] W fun e w' => e = .returned (.string ⟨(cbt b).toArray⟩) ∧ Kp [] W w' := by
  have := bits_le b hb
  exact hex_spec b (bitsI b).toNat hb (by omega) W
theorem hexi (b : Nat) (hb : b < 4294967296) (W : World) (hd : DeB W) : Calls Tryd.prog 50 #[.float .f32 b] W fun e w' => e = .returned (.string ⟨(cbt b).toArray⟩) ∧ Kp [] W w' := by
  have := bits_le b hb
  exact hex_impl b (bitsI b).toNat hb (by omega) W hd

set_option maxRecDepth 100000 in
set_option maxHeartbeats 2000000 in
theorem ntext_spec (A : Option Addr) (n c : Nat) (zs : List Nat) (W : World) (h : Sl W A n (valsF zs)) (h0 : 0 < n) (hn : n ≤ 256) (hz : AllF zs) :
    Calls Tryd.prog 49 #[.slice A n c] W fun e w' => e = .returned (.string (bst (txH zs n))) ∧ Kp [] W w' := by
  have HA := Lib.hid h
  have HL := Lib.hid (show zs.length = n by rw [← valsF_len, h.len])
  have HZ := Lib.hid hz
  clear h hz
  obtain ⟨b, off, x, rfl, hb, HX, hcx⟩ := slF_at HA.out h0
  rw [Nat.add_zero] at hcx
  have HXB := Lib.hid (HZ.out x (List.mem_of_getElem? HX.out))
  obtain ⟨S, hS⟩ : ∃ S : ByteArray, (⟨(cbt x).toArray⟩ : ByteArray) = S := ⟨_, rfl⟩
  have HS := Lib.hid hS
  clear hS
  have hl0 : ((n : Int) == 0) = false := by simpa using (show ¬ n = 0 by omega)
  go_enter Tryd.func49, Tryd.ntmps49
  go_wp2_with fail
  refine (hexs x HXB.out _).mono ?_
  rw [HS.out]
  rintro e w1 ⟨rfl, hk1⟩
  have K1 := Lib.hid hk1
  clear hk1 hcx
  have HS1 := Lib.hid (show bst (txH zs 1) = S by rw [txH_one HX.out]; exact HS.out)
  go_wp2_with fail
  go_loopw [3, 4] (fun o i wr => ∃ (k : Nat) (T : ByteArray), 1 ≤ k ∧ k ≤ n ∧ o = .string T ∧ i = .int .i64 (k : Int) ∧ bst (txH zs k) = T ∧ Kp [] W wr) (fun _ i _ => n - (intOf i).toNat)
  case atStart => exact ⟨1, S, Nat.le_refl _, h0, rfl, rfl, HS1.out, K1.out⟩
  case round =>
    obtain ⟨k, T, hk1, hk, rfl, rfl, hT, hkp⟩ := hrel
    have HT := Lib.hid hT
    have HK := Lib.hid hkp
    clear hT hkp
    by_cases hlt : k < n
    · obtain ⟨b, off, y, hA, hb, HY, hcy⟩ := slF_at (HA.out.kp HK.out) hlt
      injection hA with hA
      injection hA with e1 e2
      subst e1 e2
      have HYB := Lib.hid (HZ.out y (List.mem_of_getElem? HY.out))
      have hlen := cbt_len y
      have htl := txH_len (zs := zs) k
      obtain ⟨Y, hY⟩ : ∃ Y : ByteArray, (⟨(cbt y).toArray⟩ : ByteArray) = Y := ⟨_, rfl⟩
      obtain ⟨C, hC⟩ : ∃ C : ByteArray, bst (44 :: cbt y) = C := ⟨_, rfl⟩
      obtain ⟨T2, hT2⟩ : ∃ T2 : ByteArray, bst (txH zs (k + 1)) = T2 := ⟨_, rfl⟩
      have r1 : ∀ w, (Op.stringOp .add ⟨#[44]⟩ Y).run Tryd.prog w = .ok (.string C) w := fun w => by
        rw [← hY, ← hC]
        exact run_cat [44] (cbt y) (by simp; omega) w
      have r2 : ∀ w, (Op.stringOp .add T C).run Tryd.prog w = .ok (.string T2) w := fun w => by
        rw [← HT.out, ← hC, ← hT2, txH_succ hk1 HY.out]
        exact run_cat (txH zs k) (44 :: cbt y) (by rw [List.length_cons]; omega) w
      have HYY := Lib.hid hY
      have HT2 := Lib.hid hT2
      clear hY hC hT2 hlen htl
      go_wp2_with fail
      refine (hexs y HYB.out _).mono ?_
      rw [HYY.out]
      rintro e w2 ⟨rfl, hk2⟩
      have K2 := Lib.hid (HK.out.tr hk2)
      clear hk2 hcy
      go_wp2_with fail
      go_roundw
      case rel => exact ⟨k + 1, T2, by omega, by omega, rfl, by go_num, HT2.out, K2.out⟩
      case measure => simp [intOf]; omega
    · obtain rfl : n = k := by omega
      go_wp2
      go_ret
      exact ⟨by rw [HT.out]; rfl, HK.out⟩

/-- What both hand back. -/
def NtPost (zs : List Nat) (w : World) (e : Ending) (w' : World) : Prop :=
  e = .returned (.tuple (if zs.length ≤ 256 then #[.string (if zs.length = 0 then ⟨#[110, 111, 110, 101]⟩ else bst (txH zs zs.length)), .bool true] else #[.string ⟨#[]⟩, .bool false])) ∧ Kp [] w w'
theorem NtPost.no {zs : List Nat} {w w' : World} (h : ¬ zs.length ≤ 256) (hk : Kp [] w w') : NtPost zs w (.returned (.tuple #[.string ⟨#[]⟩, .bool false])) w' := ⟨by rw [if_neg h], hk⟩
theorem NtPost.mt {zs : List Nat} {w w' : World} (h : zs.length = 0) (hk : Kp [] w w') : NtPost zs w (.returned (.tuple #[.string ⟨#[110, 111, 110, 101]⟩, .bool true])) w' := ⟨by rw [if_pos (by omega), if_pos h], hk⟩
theorem NtPost.yes {zs : List Nat} {w w' : World} {n : Nat} {S : ByteArray} (hl : zs.length = n) (h : n ≤ 256) (h0 : ¬ n = 0) (hS : bst (txH zs n) = S) (hk : Kp [] w w') : NtPost zs w (.returned (.tuple #[.string S, .bool true])) w' := ⟨by rw [hl, if_pos h, if_neg h0, hS], hk⟩

theorem few_spec (A : Option Addr) (n c : Nat) (w : World) : Calls Tryd.prog 48 #[.slice A n c] w fun e w' => e = .returned (.bool (decide (n ≤ 256))) ∧ w = w' := by
  go_enter Tryd.func48, Tryd.ntmps48
  go_wp2
  go_ret
  refine ⟨?_, rfl⟩
  congr 2
  simp
  omega

set_option maxHeartbeats 1000000 in
theorem nt_spec (A : Option Addr) (n c : Nat) (zs : List Nat) (W : World) (h : Sl W A n (valsF zs)) (hn : n ≤ 1048576) (hz : AllF zs) :
    Calls Tryd.prog 30 #[.slice A n c] W (NtPost zs W) := by
  have HA := Lib.hid h
  have HL := Lib.hid (show zs.length = n by rw [← valsF_len, h.len])
  have HZ := Lib.hid hz
  clear h hz
  go_enter Tryd.func30, Tryd.ntmps30
  go_wp2_with fail
  refine (few_spec A n c _).mono ?_
  rintro e w1 ⟨rfl, rfl⟩
  by_cases h256 : n ≤ 256
  · have hd : decide (n ≤ 256) = true := decide_eq_true h256
    rw [hd]
    by_cases h0 : n = 0
    · subst h0
      have HP := Lib.hid HL.out
      have hz0 : ∀ w : World, Calls Tryd.prog 49 #[.slice A 0 c] w fun e w' => e = .returned (.string ⟨#[110, 111, 110, 101]⟩) ∧ w = w' := fun w => by
        go_enter Tryd.func49, Tryd.ntmps49
        go_wp2
        go_ret
        exact ⟨rfl, rfl⟩
      have HZ0 := Lib.hid hz0
      clear hz0
      go_wp2_with fail
      refine (HZ0.out _).mono ?_
      rintro e w1 ⟨rfl, rfl⟩
      go_wp2_with fail
      go_ret2
      exact NtPost.mt HP.out (Kp.refl _)
    · have H0 := Lib.hid h0
      have hp : 0 < n := by omega
      clear h0
      go_wp2_with fail
      refine (ntext_spec A n c zs _ HA.out hp h256 HZ.out).mono ?_
      rintro e w2 ⟨rfl, hk2⟩
      have K2 := Lib.hid hk2
      obtain ⟨R, hR⟩ : ∃ R, bst (txH zs n) = R := ⟨_, rfl⟩
      have HR := Lib.hid hR
      rw [hR]
      clear hk2 hR
      go_wp2_with fail
      go_ret2
      exact NtPost.yes HL.out h256 H0.out HR.out K2.out
  · have hd : decide (n ≤ 256) = false := decide_eq_false h256
    have HN := Lib.hid (show ¬ zs.length ≤ 256 by rw [HL.out]; exact h256)
    rw [hd]
    go_wp2_with fail
    go_ret2
    exact NtPost.no HN.out (Kp.refl _)
end Go.Proofs.YtmlocepflcfkmaaDoor
