/-
  A number's bits in hexadecimal: the reference's function. Conditions: the bits are a float's.
-/
import Derived.Test.YtmlocepflcfkmaaDoorDec
import Derived.Test.YtmlocepflcfkmaaDoorHexL
import Derived.Test.YtmlocepflcfkmaaDoorBits
namespace Go.Proofs.YtmlocepflcfkmaaDoor
set_option linter.unusedVariables false
set_option linter.unusedSimpArgs false
open Go.RowKit Mem Dec Hex Flo

theorem bits_nat (b : Nat) (h : b < 4294967296) : ∃ N : Nat, bitsI b = (N : Int) ∧ N < 4294967296 := ⟨(bitsI b).toNat, by have := bits_le b h; omega, by have := bits_le b h; omega⟩

theorem i64_and15 (n : Int) : bits .and .i64 n 15 = n % 16 := by
  have h15 : (BitVec.ofInt 64 15).toNat = 2 ^ 4 - 1 := by decide
  have key : (BitVec.ofInt 64 n &&& BitVec.ofInt 64 15).toNat = (n % ((2 ^ 64 : Nat) : Int)).toNat % 2 ^ 4 := by
    rw [BitVec.toNat_and, BitVec.toNat_ofInt, h15, Nat.and_two_pow_sub_one_eq_mod]
  show IntKind.i64.wrap ((BitVec.ofInt 64 n &&& BitVec.ofInt 64 15).toNat : Nat) = n % 16
  rw [key, IntKind.wrap_i64]
  omega

set_option maxRecDepth 100000 in
set_option maxHeartbeats 2000000 in
theorem hex_spec (b N : Nat) (hb : b < 4294967296) (hN : bitsI b = (N : Int)) (W : World) : Calls Tryd.prog 66 #[.float .f32 b] W fun e w' => e = .returned (.string ⟨(hexL N).toArray⟩) ∧ Kp [] W w' := by
  obtain ⟨i0, hi, hz0, hz1, hz2⟩ := info_parts info8
  have hN32 : N < 4294967296 := by have := bits_le b hb; omega
  go_enter Tryd.func66, Tryd.ntmps66
  go_wp2_with fail
  refine (bits_spec (rep_tell .f32 b hb) _).mono ?_
  rw [hN]
  rintro e w1 ⟨rfl, rfl⟩
  go_wp2_with fail
  go_loopw [4, 5] (fun o k wr => ∃ (i g cap : Nat), i ≤ 8 ∧ o = .slice (some ⟨g, 0, none⟩) i cap ∧ k = .int .i64 (28 - 4 * (i : Int)) ∧ Hid (OwnB W.heap.size wr g cap (hxk i (N / 16 ^ (8 - i)))) ∧ Hid (Kp [] W wr)) (fun _ k _ => (intOf k + 4).toNat)
  case atStart => exact ⟨0, _, _, Nat.zero_le _, rfl, rfl, Lib.hid (World.ownsRow_made W #[] 0 (Nat.le_refl _) (by decide) rfl), Lib.hid ((Kp.refl W).alloc _)⟩
  case round =>
    obtain ⟨i, g, cap, hi8, rfl, rfl, HO, HK⟩ := hrel
    by_cases hlt : i < 8
    · have hge : (0 : Int) ≤ 28 - 4 * (i : Int) := by omega
      obtain ⟨D, hD, HDD⟩ : ∃ D : Nat, D < 16 ∧ Hid (N / 16 ^ (8 - (i + 1)) % 16 = D) := ⟨_, Nat.mod_lt _ (by decide), Lib.hid rfl⟩
      have hand : bits .and .i64 ((N : Int) / 2 ^ (28 - 4 * i)) 15 = (D : Int) := by
        rw [i64_and15, ← HDD.out, ← pow_16 i hlt]
        norm_cast
      have hix := dig_at D hD
      have hsz := HK.out.size
      have hO : wr.ownsRow W.heap.size 5 1 (.slice (some ⟨g, 0, none⟩) i cap) i (bysV (hxk i (N / 16 ^ (8 - i)))) := by have := HO.out; unfold OwnB at this; rwa [hxk_len] at this
      have HOO := Lib.hid hO
      clear hO
      go_wp2_with (at_builtin; refine wpList_app rfl _ _ 81 rfl W.heap.size 5 i0 (.int .u8 0) 1 1 Tryd.underlying81 hi hz0 hz1 hz2 rfl (by decide) (.slice (some ⟨g, 0, none⟩) i cap) i (bysV (hxk i (N / 16 ^ (8 - i)))) rfl (World.ownsRow.alloc HOO.out _) ⟨wr.heap.size, 0, none⟩ 1 1 [.int .u8 ((hdg D).toNat : Int)] rfl rfl (cell_one_new wr (.int .u8 ((hdg D).toNat : Int)) 5) (by simp [Value.oneCell']) (by omega) (by unfold maxLen; omega) (by omega) (by simp; omega) ?_; intro g2 cap2 w3 hown hgrow hat hlt2 hbg)
      have HN2 := Lib.hid (show OwnB W.heap.size w3 g2 cap2 (hxk (i + 1) (N / 16 ^ (8 - (i + 1)))) by
        unfold OwnB
        rw [hxk_len, front_step N i hlt, HDD.out]
        unfold bysV at hown ⊢
        rw [List.map_append]
        exact hown)
      have HK3 := Lib.hid ((HK.out.alloc (.cells #[.int .u8 ((hdg D).toNat : Int)] 5)).grown hgrow (fun b hb2 h2 => by
        have := hbg
        have := (HOO.out.lt b hb2).1
        omega))
      clear hown hgrow hat hlt2 hbg hix hand
      go_wp2
      go_roundw
      case rel => exact ⟨i + 1, g2, cap2, by omega, rfl, by go_num, HN2, HK3⟩
      case measure => simp [intOf]; omega
    · obtain rfl : i = 8 := by omega
      have hst := HO.out.str
      rw [hxk_len] at hst
      have e8 : hxk 8 (N / 16 ^ (8 - 8)) = hexL N := by simp [hexL]
      rw [e8] at hst
      go_wp2
      go_ret
      exact ⟨rfl, HK.out⟩
end Go.Proofs.YtmlocepflcfkmaaDoor
