/-
  The walk of the law on DotNumbers: it returns true. Conditions: the slices read as lists of floats.
-/
import Derived.Test.YtpebdcimbdbbmaaDot
import Derived.WalkSmall
namespace Go.Proofs.Ytpebdcimbdbbmaa.fnExactDotNumbers
open Go.RowKit Mem Flo

set_option maxHeartbeats 1000000 in
theorem walk (A : Option Addr) (n c : Nat) (zs : List Nat) (B : Option Addr) (m d : Nat) (ys : List Nat) (w : World) (h : Sl w A n (valsF zs)) (hm : n ≤ 9223372036854775807) (hf : AllF zs)
    (h2 : Sl w B m (valsF ys)) (hm2 : m ≤ 9223372036854775807) (hg : AllF ys) :
    Calls Try.prog 6 #[.slice A n c, .slice B m d] w fun e w' => e = .returned (.bool true) ∧ Below w.heap.size w w' := by
  by_cases hn : n ≤ 1048576
  · have hd : decide ((1048576 : Int) < (n : Int)) = false := decide_eq_false (by omega)
    by_cases hn2 : m ≤ 1048576
    · have hd2 : decide ((1048576 : Int) < (m : Int)) = false := decide_eq_false (by omega)
      have HA := Lib.hid h
      have HB := Lib.hid h2
      have HN := Lib.hid (show (valsF zs).length = n from h.len)
      have HM := Lib.hid (show (valsF ys).length = m from h2.len)
      clear h h2
      go_enter Try.func6, Try.ntmps6
      go_wp2_with fail
      refine (to_rowF A n c zs _ HA.out hn).mono ?_
      rintro e w1 ⟨g1, rfl, k1, row1⟩
      have K1 := Lib.hid k1
      have R1 := Lib.hid row1
      clear k1 row1
      go_wp2_with fail
      refine (to_rowF B m d ys _ (by exact HB.out.kp K1.out) hn2).mono ?_
      rintro e w1b ⟨g1b, rfl, k1, row1⟩
      have K1b := Lib.hid (K1.out.tr k1)
      have R1b := Lib.hid row1
      have R1c := Lib.hid (R1.out.kp k1)
      clear k1 row1 K1 R1
      go_wp2_with fail
      refine (dot_spec _ n n zs _ m m ys _ (by exact R1c.out.sl HN.out) (by exact R1b.out.sl HM.out) hn hn2 hf hg).mono ?_
      rintro e w' ⟨r1, rfl, hr1, q1, rfl⟩
      have K2 := Lib.hid (K1b.out.drewN q1)
      clear K1b R1b R1c
      go_wp2_with fail
      refine (to_rowF A n c zs _ (by exact HA.out.kp K2.out) hn).mono ?_
      rintro e w2 ⟨g2, rfl, k2, row2⟩
      have K3 := Lib.hid (K2.out.tr k2)
      have R2 := Lib.hid row2
      clear k2 row2 K2
      go_wp2_with fail
      refine (to_rowF B m d ys _ (by exact HB.out.kp K3.out) hn2).mono ?_
      rintro e w2b ⟨g2b, rfl, k2, row2⟩
      have K3b := Lib.hid (K3.out.tr k2)
      have R2b := Lib.hid row2
      have R2c := Lib.hid (R2.out.kp k2)
      clear k2 row2 K3 R2
      go_wp2_with fail
      refine (dot_impl _ n n zs _ m m ys _ (by exact R2c.out.sl HN.out) (by exact R2b.out.sl HM.out) hn hn2 hf hg).mono ?_
      rintro e w' ⟨r2, rfl, hr2, q2, rfl⟩
      go_wp2_with (first
        | (refine wpList_up rfl _ _ _ rfl Try.underlying22 Try.underlying26 _ rfl hr1 ?_; intro r n hu)
        | (refine wpList_up rfl _ _ _ rfl Try.underlying22 Try.underlying26 _ rfl hr2 ?_; intro r n hu)
        | (go_at_call 19; refine (same_any (by assumption) (by assumption) _).mono ?_; rintro e w' ⟨rfl, k, rfl⟩))
      refine (to_rowF A _ c zs _ (by exact HA.out.kp (K3b.out.drewN _)) hn).mono ?_
      rintro e w3 ⟨g3, rfl, k3, row3⟩
      have K4 := Lib.hid ((K3b.out.drewN _).tr k3)
      have R3 := Lib.hid row3
      have R4 := Lib.hid ((R2c.out.drewN _).kp k3)
      have R5 := Lib.hid ((R2b.out.drewN _).kp k3)
      clear k3 row3
      go_wp2_with fail
      refine (eqf_any _ _ _ _ _ zs _ (by exact R4.out.sl HN.out) (by exact R3.out.sl HN.out) hn hf).mono ?_
      rintro e w' ⟨rfl, q, rfl⟩
      go_wp2_with fail
      refine (to_rowF B _ d ys _ (by exact HB.out.kp (K4.out.drewN _)) hn2).mono ?_
      rintro e w4 ⟨g4, rfl, k4, row4⟩
      have K5 := Lib.hid ((K4.out.drewN _).tr k4)
      have R6 := Lib.hid row4
      have R7 := Lib.hid ((R5.out.drewN _).kp k4)
      clear k4 row4
      go_wp2_with fail
      refine (eqf_any _ _ _ _ _ ys _ (by exact R7.out.sl HM.out) (by exact R6.out.sl HM.out) hn2 hg).mono ?_
      rintro e w' ⟨rfl, q, rfl⟩
      go_wp2_with fail
      go_ret
      exact ⟨rfl, (K5.out.drewN _).below0⟩
    · have hd2 : decide ((1048576 : Int) < (m : Int)) = true := decide_eq_true (by omega)
      clear h h2
      go_enter Try.func6, Try.ntmps6
      go_wp2
      go_ret
      exact ⟨rfl, Below.refl _ _⟩
  · have hd : decide ((1048576 : Int) < (n : Int)) = true := decide_eq_true (by omega)
    clear h h2
    go_enter Try.func6, Try.ntmps6
    go_wp2
    go_ret
    exact ⟨rfl, Below.refl _ _⟩
end Go.Proofs.Ytpebdcimbdbbmaa.fnExactDotNumbers
