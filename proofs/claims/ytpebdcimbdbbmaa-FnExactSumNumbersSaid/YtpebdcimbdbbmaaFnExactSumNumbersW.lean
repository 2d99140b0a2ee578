/-
  The walk of the law on SumNumbers: it returns true. Conditions: the slice reads as a list of floats.
-/
import Derived.Test.YtpebdcimbdbbmaaSum
import Derived.WalkSmall
namespace Go.Proofs.Ytpebdcimbdbbmaa.fnExactSumNumbers
open Go.RowKit Mem Flo

set_option maxHeartbeats 1000000 in
theorem walk (A : Option Addr) (n c : Nat) (zs : List Nat) (w : World) (h : Sl w A n (valsF zs)) (hm : n ≤ 9223372036854775807) (hf : AllF zs) :
    Calls Try.prog 7 #[.slice A n c] w fun e w' => e = .returned (.bool true) ∧ Below w.heap.size w w' := by
  by_cases hn : n ≤ 1048576
  · have hd : decide ((1048576 : Int) < (n : Int)) = false := decide_eq_false (by omega)
    have HA := Lib.hid h
    have HL := Lib.hid (valsF_len zs)
    have hl : (valsF zs).length = n := h.len
    have HN := Lib.hid hl
    clear h hl
    go_enter Try.func7, Try.ntmps7
    go_wp2_with fail
    refine (to_rowF A n c zs _ HA.out hn).mono ?_
    rintro e w1 ⟨g1, rfl, k1, row1⟩
    have K1 := Lib.hid k1
    have R1 := Lib.hid row1
    clear k1 row1
    go_wp2_with fail
    refine (sum_spec _ n n zs _ (by exact R1.out.sl HN.out) hn hf).mono ?_
    rintro e w' ⟨r1, rfl, hr1, q1, rfl⟩
    have K2 := Lib.hid (K1.out.drewN q1)
    clear K1 R1
    go_wp2_with fail
    refine (to_rowF A n c zs _ (by exact HA.out.kp K2.out) hn).mono ?_
    rintro e w2 ⟨g2, rfl, k2, row2⟩
    have K3 := Lib.hid (K2.out.tr k2)
    have R2 := Lib.hid row2
    clear k2 row2 K2
    go_wp2_with fail
    refine (sum_impl _ n n zs _ (by exact R2.out.sl HN.out) hn hf).mono ?_
    rintro e w' ⟨r2, rfl, hr2, q2, rfl⟩
    go_wp2_with (first
      | (refine wpList_up rfl _ _ _ rfl Try.underlying22 Try.underlying26 _ rfl hr1 ?_; intro r n hu)
      | (refine wpList_up rfl _ _ _ rfl Try.underlying22 Try.underlying26 _ rfl hr2 ?_; intro r n hu)
      | (go_at_call 19; refine (same_any (by assumption) (by assumption) _).mono ?_; rintro e w' ⟨rfl, k, rfl⟩))
    refine (to_rowF A _ c zs _ (by exact HA.out.kp (K3.out.drewN _)) hn).mono ?_
    rintro e w3 ⟨g3, rfl, k3, row3⟩
    have K4 := Lib.hid ((K3.out.drewN _).tr k3)
    have R3 := Lib.hid row3
    have R4 := Lib.hid ((R2.out.drewN _).kp k3)
    clear k3 row3
    go_wp2_with fail
    refine (eqf_any _ _ _ _ _ zs _ (by exact R4.out.sl HN.out) (by exact R3.out.sl HN.out) hn hf).mono ?_
    rintro e w' ⟨rfl, q, rfl⟩
    go_wp2_with fail
    go_ret
    exact ⟨rfl, (K4.out.drewN _).below0⟩
  · have hd : decide ((1048576 : Int) < (n : Int)) = true := decide_eq_true (by omega)
    clear h
    go_enter Try.func7, Try.ntmps7
    go_wp2
    go_ret
    exact ⟨rfl, Below.refl _ _⟩
end Go.Proofs.Ytpebdcimbdbbmaa.fnExactSumNumbers
