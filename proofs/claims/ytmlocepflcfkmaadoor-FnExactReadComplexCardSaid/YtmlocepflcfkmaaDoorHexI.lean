/-
  A number's bits in hexadecimal: the program's function. Conditions: the bits are a float's; Go's table of trailing zeros lies as the library lays it.
-/
import Derived.Test.YtmlocepflcfkmaaDoorHexF
import Derived.Test.YtmlocepflcfkmaaDoorBitsImpl
import Derived.Test.YtmlocepflcfkmaaDoorSh
import Derived.WideShapes
namespace Go.Proofs.YtmlocepflcfkmaaDoor
set_option linter.unusedVariables false
set_option linter.unusedSimpArgs false
open Go.RowKit Mem Dec Hex Flo

theorem fint (N : Nat) (hN : N < 4294967296) (W : World) (hd : DeB W) : Calls Tryd.prog 62 #[.int .i64 (N : Int), .int .i64 16] W (HxPost N W (fun v => v)) := by
  have H := Lib.hid hd
  clear hd
  have q1 : IntKind.u64.wrap (N : Int) = (N : Int) := IntWalk.u64_in _ (by omega)
  go_enter Tryd.func62, Tryd.ntmps62
  go_wp2_with fail
  refine (fbits N hN _ H.out).mono ?_
  rintro e w1 ⟨K, h1, h2, h3, rfl, hk⟩
  have HH := Lib.hid (And.intro h1 (And.intro h2 (And.intro h3 hk)))
  clear h1 h2 h3 hk
  obtain ⟨S, hS⟩ : ∃ S : ByteArray, (⟨(hxk K N).toArray⟩ : ByteArray) = S := ⟨_, rfl⟩
  rw [hS]
  have HS := Lib.hid hS
  clear hS
  go_wp2_with fail
  go_ret
  exact ⟨K, HH.out.1, HH.out.2.1, HH.out.2.2.1, by rw [HS.out]; rfl, HH.out.2.2.2⟩
theorem fint_pub (N : Nat) (hN : N < 4294967296) (W : World) (hd : DeB W) : Calls Tryd.prog 43 #[.int .i64 (N : Int), .int .i64 16] W (HxPost N W (fun v => v)) := by
  have H := Lib.hid hd
  clear hd
  go_enter Tryd.func43, Tryd.ntmps43
  go_wp2_with fail
  refine (fint N hN _ H.out).mono ?_
  rintro e w1 ⟨K, h1, h2, h3, rfl, hk⟩
  have HH := Lib.hid (And.intro h1 (And.intro h2 (And.intro h3 hk)))
  clear h1 h2 h3 hk
  obtain ⟨S, hS⟩ : ∃ S : ByteArray, (⟨(hxk K N).toArray⟩ : ByteArray) = S := ⟨_, rfl⟩
  rw [hS]
  have HS := Lib.hid hS
  clear hS
  go_wp2_with fail
  go_ret
  exact ⟨K, HH.out.1, HH.out.2.1, HH.out.2.2.1, by rw [HS.out]; rfl, HH.out.2.2.2⟩

theorem rep48 (c : Nat) (hc : c ≤ 8) (w : World) : Calls Tryd.prog 68 #[.string ⟨#[48]⟩, .int .i64 (c : Int)] w fun e w' => e = .returned (.string ⟨(List.replicate c 48).toArray⟩) ∧ Kp [] w w' := by
  refine (Tryd.strings_Repeat ⟨#[48]⟩ c w (by omega) (by show 1 * c ≤ _; omega)).mono ?_
  rintro e w' ⟨rfl, hb⟩
  refine ⟨?_, Kp.of_below hb⟩
  have e : ∀ c : Nat, Lib.repeatL [48] c = List.replicate c 48 := fun c => by
    induction c with
    | zero => rfl
    | succ c ih => rw [Lib.repeatL, ih]; rfl
  rw [show (⟨#[48]⟩ : ByteArray).data.toList = [48] from rfl, e]

set_option maxHeartbeats 1000000 in
theorem hex_impl (b N : Nat) (hb : b < 4294967296) (hN : bitsI b = (N : Int)) (W : World) (hd : DeB W) : Calls Tryd.prog 50 #[.float .f32 b] W fun e w' => e = .returned (.string ⟨(hexL N).toArray⟩) ∧ Kp [] W w' := by
  have hN32 : N < 4294967296 := by have := bits_le b hb; omega
  have H := Lib.hid hd
  clear hd
  go_enter Tryd.func50, Tryd.ntmps50
  go_wp2_with fail
  refine (bits_impl (rep_tell .f32 b hb) _).mono ?_
  rw [hN]
  rintro e w1 ⟨rfl, rfl⟩
  go_wp2_with fail
  refine (fint_pub N hN32 _ H.out).mono ?_
  rintro e w1 ⟨K, h1, h2, h3, rfl, hk⟩
  have HP := Lib.hid (hexL_pad h2 h3)
  obtain ⟨S, hS⟩ : ∃ S : ByteArray, (⟨(hxk K N).toArray⟩ : ByteArray) = S := ⟨_, rfl⟩
  have hsz : S.size = K := by rw [← hS]; exact hxk_len K N
  rw [hS]
  have HS := Lib.hid hS
  have K1 := Lib.hid hk
  clear hS hk h3
  have hc : ((8 - K : Nat) : Int) = 8 - (K : Int) := by omega
  go_wp2_with fail
  rw [← hc]
  refine (rep48 (8 - K) (by omega) _).mono ?_
  rintro e w2 ⟨rfl, hk2⟩
  have K2 := Lib.hid (K1.out.tr hk2)
  clear hk2
  obtain ⟨Z, hZ⟩ : ∃ Z : ByteArray, (⟨(List.replicate (8 - K) 48).toArray⟩ : ByteArray) = Z := ⟨_, rfl⟩
  have hZs : ¬ 9223372036854775807 < Z.size + K := by
    have : Z.size = 8 - K := by rw [← hZ]; show (List.replicate (8 - K) (48 : UInt8)).length = _; simp
    omega
  rw [hZ]
  have HZ := Lib.hid hZ
  clear hZ
  go_wp2_with fail
  go_ret
  refine ⟨?_, K2.out⟩
  have e : Z ++ S = ⟨(hexL N).toArray⟩ := by
    rw [← HZ.out, ← HS.out, ← HP.out]
    apply Go.WideShapes.bytes_inj
    simp
  show Ending.returned (.string (Z ++ S)) = _
  rw [e]
end Go.Proofs.YtmlocepflcfkmaaDoor
