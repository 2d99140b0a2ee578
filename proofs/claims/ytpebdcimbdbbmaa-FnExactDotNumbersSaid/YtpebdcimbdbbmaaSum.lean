/-
  The sum of a list of float32: the reference's and the program's functions give numbers that are told alike. Conditions: the slice reads as a list of floats that is not too long.
-/
import Derived.Test.YtpebdcimbdbbmaaEqF
namespace Go.Proofs.Ytpebdcimbdbbmaa
open Go.RowKit Mem Flo

/-- The sum of the first k numbers. -/
def sumV (zs : List Nat) : Nat → Option Nat
  | 0 => some 0
  | k + 1 => ar .add .f32 (sumV zs k) (tell .f32 (zs.getD k 0))
theorem sumV_succ {zs : List Nat} {k x : Nat} (hx : Hid (zs[k]? = some x)) : sumV zs (k + 1) = ar .add .f32 (sumV zs k) (tell .f32 x) := by
  show ar .add .f32 (sumV zs k) (tell .f32 (zs.getD k 0)) = _
  rw [show zs.getD k 0 = x by simp [List.getD, hx.out]]
theorem rep_zero : Rep .f32 (some 0) 0 := rep_lit _ _ (by decide +kernel)

/-- What SumNumbers hands back. -/
def SumPost (v : Option Nat) (ok : Bool) (w : World) (e : Ending) (w' : World) : Prop := ∃ r, e = .returned (.tuple #[.float .f32 r, .bool ok]) ∧ Rep .f32 v r ∧ ∃ q, w' = w.drewN q
theorem SumPost.mk {v : Option Nat} {ok : Bool} {w : World} {r q : Nat} (h : Rep .f32 v r) : SumPost v ok w (.returned (.tuple #[.float .f32 r, .bool ok])) (w.drewN q) := ⟨r, rfl, h, q, rfl⟩
theorem SumPost.mk0 {v : Option Nat} {ok : Bool} {w : World} {r : Nat} (h : Rep .f32 v r) : SumPost v ok w (.returned (.tuple #[.float .f32 r, .bool ok])) w := ⟨r, rfl, h, 0, rfl⟩
/-- The value of the sum, where the list is not too long. -/
def sumR (zs : List Nat) : Option Nat := if zs.length ≤ 256 then sumV zs zs.length else some 0

theorem few_spec (A : Option Addr) (n c : Nat) (hn : n ≤ 1048576) (w : World) : Calls Try.prog 64 #[.slice A n c] w fun e w' => e = .returned (.bool (decide ((n : Int) ≤ 256))) ∧ w = w' := by
  go_enter Try.func64, Try.ntmps64
  go_wp2
  go_ret
  exact ⟨rfl, rfl⟩

set_option maxHeartbeats 1000000 in
theorem suml_spec (A : Option Addr) (n c : Nat) (zs : List Nat) (w : World) (h : Sl w A n (valsF zs)) (hn : n ≤ 256) (hf : AllF zs) :
    Calls Try.prog 66 #[.slice A n c] w fun e w' => ∃ r, e = .returned (.float .f32 r) ∧ Rep .f32 (sumV zs n) r ∧ ∃ q, w' = w.drewN q := by
  have HA := Lib.hid h
  clear h
  go_enter Try.func66, Try.ntmps66
  go_wp2
  go_loopw [4, 3] (fun i o wr => ∃ (k q s : Nat), k ≤ n ∧ i = .int .i64 k ∧ o = .float .f32 s ∧ wr = w.drewN q ∧ Rep .f32 (sumV zs k) s) (fun i _ _ => n - (intOf i).toNat)
  case atStart => exact ⟨0, 0, 0, Nat.zero_le _, rfl, rfl, rfl, rep_zero⟩
  case round =>
    obtain ⟨k, q, s, hk, rfl, rfl, rfl, HS0⟩ := hrel
    by_cases hlt : k < n
    · obtain ⟨b, off, x, rfl, hb, HX, hcx⟩ := slF_at HA.out hlt
      have hr := hf.at_ HX
      have HE := Lib.hid (sumV_succ HX)
      go_wp2_with (refine wpList_ar rfl _ _ _ _ _ rfl rfl _ _ _ rfl rfl HS0 hr ?_; intro r nn hrr)
      go_roundw
      case rel => exact ⟨k + 1, _, _, by omega, by go_num, rfl, (by first | rfl | exact World.drewN_drewN _ _ _), by rw [HE.out]; assumption⟩
      case measure => simp [intOf]; omega
    · obtain rfl : n = k := by omega
      have HS := Lib.hid HS0
      clear HS0
      go_wp2
      go_ret
      exact ⟨_, rfl, HS.out, _, rfl⟩

set_option maxHeartbeats 1000000 in
theorem sum_spec (A : Option Addr) (n c : Nat) (zs : List Nat) (w : World) (h : Sl w A n (valsF zs)) (hn : n ≤ 1048576) (hf : AllF zs) :
    Calls Try.prog 28 #[.slice A n c] w (SumPost (sumR zs) (decide (n ≤ 256)) w) := by
  have HL := Lib.hid (show zs.length = n by rw [← valsF_len, h.len])
  have HA := Lib.hid h
  clear h
  by_cases h256 : n ≤ 256
  · have hd : decide ((n : Int) ≤ 256) = true := decide_eq_true (by omega)
    have HD := Lib.hid (decide_eq_true h256)
    have HR := Lib.hid (show sumR zs = sumV zs n by unfold sumR; rw [HL.out, if_pos h256])
    go_enter Try.func28, Try.ntmps28
    go_wp2_with (go_at_call 64; refine (few_spec _ _ _ hn _).mono ?_; rintro e w' ⟨rfl, rfl⟩)
    refine (suml_spec _ n c zs _ HA.out h256 hf).mono ?_
    rintro e w' ⟨r, rfl, hr, q, rfl⟩
    go_wp2
    go_ret2
    rw [HD.out, HR.out]
    exact SumPost.mk hr
  · have hd : decide ((n : Int) ≤ 256) = false := decide_eq_false (by omega)
    have HD := Lib.hid (decide_eq_false h256)
    have HR := Lib.hid (show sumR zs = some 0 by unfold sumR; rw [HL.out, if_neg h256])
    go_enter Try.func28, Try.ntmps28
    go_wp2_with (go_at_call 64; refine (few_spec _ _ _ hn _).mono ?_; rintro e w' ⟨rfl, rfl⟩)
    go_ret2
    rw [HD.out, HR.out]
    exact SumPost.mk0 rep_zero

set_option maxHeartbeats 1000000 in
theorem sum_impl (A : Option Addr) (n c : Nat) (zs : List Nat) (w : World) (h : Sl w A n (valsF zs)) (hn : n ≤ 1048576) (hf : AllF zs) :
    Calls Try.prog 29 #[.slice A n c] w (SumPost (sumR zs) (decide (n ≤ 256)) w) := by
  have HL := Lib.hid (show zs.length = n by rw [← valsF_len, h.len])
  have HA := Lib.hid h
  clear h
  by_cases h256 : n ≤ 256
  · have HD := Lib.hid (decide_eq_true h256)
    have HR := Lib.hid (show sumR zs = sumV zs n by unfold sumR; rw [HL.out, if_pos h256])
    go_enter Try.func29, Try.ntmps29
    go_wp2
    go_loopw [12, 4] (fun i o wr => ∃ (k q s : Nat), k ≤ n ∧ i = .int .i64 k ∧ o = .float .f32 s ∧ wr = w.drewN q ∧ Rep .f32 (sumV zs k) s) (fun i _ _ => n - (intOf i).toNat)
    case atStart => exact ⟨0, 0, 0, Nat.zero_le _, rfl, rfl, rfl, rep_zero⟩
    case round =>
      obtain ⟨k, q, s, hk, rfl, rfl, rfl, HS0⟩ := hrel
      by_cases hlt : k < n
      · obtain ⟨b, off, x, rfl, hb, HX, hcx⟩ := slF_at HA.out hlt
        have hr := hf.at_ HX
        have HE := Lib.hid (sumV_succ HX)
        go_wp2_with (refine wpList_ar rfl _ _ _ _ _ rfl rfl _ _ _ rfl rfl HS0 hr ?_; intro r nn hrr)
        go_roundw
        case rel => exact ⟨k + 1, _, _, by omega, by go_num, rfl, (by first | rfl | exact World.drewN_drewN _ _ _), by rw [HE.out]; assumption⟩
        case measure => simp [intOf]; omega
      · obtain rfl : n = k := by omega
        have HS := Lib.hid HS0
        clear HS0
        go_wp2
        go_ret2
        rw [HD.out, HR.out]
        exact SumPost.mk HS.out
  · have HD := Lib.hid (decide_eq_false h256)
    have HR := Lib.hid (show sumR zs = some 0 by unfold sumR; rw [HL.out, if_neg h256])
    go_enter Try.func29, Try.ntmps29
    go_wp2
    go_ret2
    rw [HD.out, HR.out]
    exact SumPost.mk0 rep_zero
end Go.Proofs.Ytpebdcimbdbbmaa
