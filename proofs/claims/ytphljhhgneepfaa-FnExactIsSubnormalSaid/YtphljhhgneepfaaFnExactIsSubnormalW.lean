/-
  The walk of the law on IsSubnormal: both functions tell whether a number is subnormal; the law returns true. Conditions: the arguments are floats.
-/
import Derived.Test.YtphljhhgneepfaaSub
namespace Go.Proofs.Ytphljhhgneepfaa.fnExactIsSubnormal
open Go.RowKit Flo

theorem i64_and_nat (a b : Nat) (ha : a < 9223372036854775808) (hb : b < 9223372036854775808) : bits .and .i64 (a : Int) (b : Int) = ((a &&& b : Nat) : Int) := by
  have hx : a &&& b < 2 ^ 63 := Nat.and_lt_two_pow _ (by omega)
  have o : ∀ a : Nat, a < 9223372036854775808 → (BitVec.ofInt 64 (a : Int)).toNat = a := fun a ha => by
    rw [BitVec.ofInt_natCast, BitVec.toNat_ofNat]; exact Nat.mod_eq_of_lt (by omega)
  show IntKind.i64.wrap ((BitVec.ofInt 64 (a : Int) &&& BitVec.ofInt 64 (b : Int)).toNat : Int) = _
  rw [BitVec.toNat_and, o a ha, o b hb, IntKind.wrap_i64]
  omega

theorem exp_bits {b : Nat} (h : b < 4294967296) : (bits .and .i64 (b : Int) 2139095040 == 0) = decide (rg .f32 b < 8388608) := by
  have e := i64_and_nat b 2139095040 (by omega) (by omega)
  rw [show ((2139095040 : Nat) : Int) = 2139095040 from rfl] at e
  rw [e, Bool.eq_iff_iff, beq_iff_eq, decide_eq_true_iff, exp_test]
theorem exp_none : (bits .and .i64 2143289344 2139095040 == 0) = false := by decide +kernel

theorem s_spec {b : Nat} {v : Option Nat} (h : Rep .f32 v b) (w : World) : Calls Try.prog 17 #[.float .f32 b] w fun e w' => e = .returned (.bool (subB b)) ∧ w = w' := by
  cases hn : nan .f32 b
  · have hz := zero_test b hn
    by_cases hr : rg .f32 b = 0
    · rw [decide_eq_true hr] at hz
      rw [subB_zero hr]
      have ho : FloatKind.f32.format.order b 0 = some .eq := by simpa using hz
      clear hz hr
      go_enter Try.func17, Try.ntmps17
      go_wp2_with fail
      go_ret
      exact ⟨rfl, rfl⟩
    · rw [decide_eq_false hr] at hz
      rw [subB_num hr]
      have ho : (FloatKind.f32.format.order b 0 != some .eq) = true := by simpa using hz
      have HT := Lib.hid (show (bits .and .i64 (bitsI b) 2139095040 == 0) = decide (rg .f32 b < 8388608) by rw [bitsI_num hn]; exact exp_bits h.lt)
      clear hz hr
      go_enter Try.func17, Try.ntmps17
      go_wp2_with (go_at_call 30; refine (bits_spec h _).mono ?_; rintro e w' ⟨rfl, rfl⟩)
      go_ret
      exact ⟨ret_bool HT.out, rfl⟩
  · have ho : (FloatKind.f32.format.order b 0 != some .eq) = true := by rw [order_left hn]; rfl
    have HT := Lib.hid (show (bits .and .i64 (bitsI b) 2139095040 == 0) = subB b by rw [bitsI_nan hn, subB_nan hn]; exact exp_none)
    go_enter Try.func17, Try.ntmps17
    go_wp2_with (go_at_call 30; refine (bits_spec h _).mono ?_; rintro e w' ⟨rfl, rfl⟩)
    go_ret
    exact ⟨ret_bool HT.out, rfl⟩

theorem walk (a0 : Nat) (w : World) (w0 : (Lit.float .f32 a0).wf = true) : Calls Try.prog 6 #[.float .f32 a0] w fun e w' => e = .returned (.bool true) ∧ Below w.heap.size w w' := by
  have h := rep_wf _ _ w0
  clear w0
  cases hs : subB a0
  all_goals
    go_enter Try.func6, Try.ntmps6
    go_wp2_with (first
      | (go_at_call 17; refine (s_spec h _).mono ?_; rintro e w' ⟨rfl, rfl⟩)
      | (go_at_call 18; refine (sub_impl h _).mono ?_; rintro e w' ⟨rfl, n, rfl⟩))
    go_ret
    exact ⟨rfl, below_drewN (Below.refl _ _) _⟩
end Go.Proofs.Ytphljhhgneepfaa.fnExactIsSubnormal
