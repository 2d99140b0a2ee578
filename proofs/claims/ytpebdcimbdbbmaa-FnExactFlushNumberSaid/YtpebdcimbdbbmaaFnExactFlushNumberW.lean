/-
  The walk of the law on FlushNumber: it returns true. Conditions: the argument is a float.
-/
import Derived.Test.YtpebdcimbdbbmaaFrom
import Derived.Test.YtpebdcimbdbbmaaSub
import Derived.WalkSmall
namespace Go.Proofs.Ytpebdcimbdbbmaa.fnExactFlushNumber
open Go.RowKit Flo

theorem top_and (k b : Nat) : b &&& 2 ^ k = b / 2 ^ k % 2 * 2 ^ k := by
  have h1 : (b &&& 2 ^ k) % 2 ^ k = 0 := by
    rw [Nat.and_mod_two_pow, Nat.mod_self, Nat.and_zero]
  have h2 : (b &&& 2 ^ k) >>> k = (b >>> k) &&& 1 := by
    rw [Nat.shiftRight_and_distrib, Nat.shiftRight_eq_div_pow (2 ^ k), Nat.div_self (Nat.two_pow_pos k)]
  rw [Nat.shiftRight_eq_div_pow, Nat.shiftRight_eq_div_pow, Nat.and_one_is_mod] at h2
  have h4 := Nat.div_add_mod (b &&& 2 ^ k) (2 ^ k)
  rw [h1, h2, Nat.add_zero, Nat.mul_comm] at h4
  exact h4.symm

theorem sign_bits (b : Nat) (h : b < 18446744073709551616) : (bits BinOp.or IntKind.u64 (bits BinOp.andNot IntKind.u64 0 9223372036854775808) (bits BinOp.and IntKind.u64 (b : Int) 9223372036854775808)).toNat = b / 9223372036854775808 * 9223372036854775808 := by
  have e := u64_and_nat b 9223372036854775808 h (by omega)
  rw [show ((9223372036854775808 : Nat) : Int) = 9223372036854775808 from rfl] at e
  have e0 : bits BinOp.andNot IntKind.u64 0 9223372036854775808 = ((0 : Nat) : Int) := by decide +kernel
  have t := top_and 63 b
  rw [show 2 ^ 63 = 9223372036854775808 from rfl] at t
  have hlt : b / 9223372036854775808 % 2 * 9223372036854775808 < 18446744073709551616 := by omega
  rw [e, e0, u64_or_nat 0 _ (by omega) (by rw [t]; exact hlt), Int.toNat_natCast, Nat.zero_or, t]
  omega

theorem csign_any {b : Nat} {v : Option Nat} (h : Rep .f64 v b) (w : World) : Calls Try.prog 59 #[.float .f64 0, .float .f64 b] w fun e w' => e = .returned (.float .f64 (b / 9223372036854775808 * 9223372036854775808)) ∧ w = w' := by
  have hb := call_bits64
  have hf := call_from64
  go_enter Try.func59, Try.ntmps59
  go_wp2
  go_ret
  refine ⟨?_, rfl⟩
  show Ending.returned (.float .f64 (bits BinOp.or IntKind.u64 (bits BinOp.andNot IntKind.u64 0 9223372036854775808) (bits BinOp.and IntKind.u64 (b : Int) 9223372036854775808)).toNat) = _
  rw [sign_bits b h.lt]

/-- A number, but a zero of its sign if it is subnormal. -/
def flw (b : Nat) : Nat := if rg .f32 b < 8388608 then b / 2147483648 * 2147483648 else b

theorem flw_lt (b : Nat) (h : b < 4294967296) : flw b < 4294967296 := by
  unfold flw; split <;> omega
theorem flw_hi {b : Nat} (h : ¬ rg .f32 b < 8388608) : flw b = b := by unfold flw; rw [if_neg h]
theorem flw_lo {b : Nat} (h : rg .f32 b < 8388608) : flw b = b / 2147483648 * 2147483648 := by unfold flw; rw [if_pos h]
theorem nan_hi {b : Nat} (h : nan .f32 b = true) : ¬ rg .f32 b < 8388608 := by
  have h1 : ¬ rg .f32 b ≤ FloatKind.f32.format.infRung := fun hh => by rw [(not_nan_iff .f32 b).2 hh] at h; cases h
  rw [show FloatKind.f32.format.infRung = 2139095040 from rfl] at h1
  omega

theorem i64_and_nat (a b : Nat) (ha : a < 9223372036854775808) (hb : b < 9223372036854775808) : bits .and .i64 (a : Int) (b : Int) = ((a &&& b : Nat) : Int) := by
  have hx : a &&& b < 2 ^ 63 := Nat.and_lt_two_pow _ (by omega)
  have o : ∀ a : Nat, a < 9223372036854775808 → (BitVec.ofInt 64 (a : Int)).toNat = a := fun a ha => by
    rw [BitVec.ofInt_natCast, BitVec.toNat_ofNat]; exact Nat.mod_eq_of_lt (by omega)
  show IntKind.i64.wrap ((BitVec.ofInt 64 (a : Int) &&& BitVec.ofInt 64 (b : Int)).toNat : Int) = _
  rw [BitVec.toNat_and, o a ha, o b hb, IntKind.wrap_i64]
  omega

theorem exp_bits {b : Nat} (h : b < 4294967296) : (bits .and .i64 (b : Int) 2139095040 == 0) = decide (rg .f32 b < 8388608) := by
  have e := i64_and_nat b 2139095040 (by omega) (by omega)
  rw [show ((2139095040 : Nat) : Int) = 2139095040 from rfl] at e
  rw [e, Bool.eq_iff_iff, beq_iff_eq, decide_eq_true_iff, exp_test]
theorem sgn_bits {b : Nat} (h : b < 4294967296) : bits .and .i64 (b : Int) 2147483648 = ((b / 2147483648 * 2147483648 : Nat) : Int) := by
  have e := i64_and_nat b 2147483648 (by omega) (by omega)
  have t := top_and 31 b
  rw [show 2 ^ 31 = 2147483648 from rfl] at t
  rw [show ((2147483648 : Nat) : Int) = 2147483648 from rfl] at e
  have hh : b / 2147483648 % 2 * 2147483648 = b / 2147483648 * 2147483648 := by omega
  rw [e, t, hh]
theorem exp_none : (bits .and .i64 2143289344 2139095040 == 0) = false := by decide +kernel
theorem ret_f32 {a b : Nat} (h : a = b) : Ending.returned (.float .f32 a) = .returned (.float .f32 b) := by rw [h]

theorem l_spec {b : Nat} {v : Option Nat} (h : Rep .f32 v b) (w : World) : Calls Try.prog 57 #[.float .f32 b] w fun e w' => e = .returned (.float .f32 (flw b)) ∧ w = w' := by
  have hl := lt32 h
  have hlt : b < 4294967296 := h.lt
  cases hn : nan .f32 b
  · by_cases hr : rg .f32 b < 8388608
    · have HT := Lib.hid (flw_lo hr)
      have hx : (bits .and .i64 (bitsI b) 2139095040 == 0) = true := by rw [bitsI_num hn, exp_bits hlt, decide_eq_true hr]
      have hs : bits .and .i64 (bitsI b) 2147483648 = ((b / 2147483648 * 2147483648 : Nat) : Int) := by rw [bitsI_num hn]; exact sgn_bits hlt
      have hy : 0 ≤ bits .and .i64 (bitsI b) 2147483648 ∧ bits .and .i64 (bitsI b) 2147483648 ≤ 4294967295 := by rw [hs]; omega
      have HS := Lib.hid (congrArg Int.toNat hs)
      obtain ⟨y0, y1⟩ := hy
      clear hs hr hlt
      go_enter Try.func57, Try.ntmps57
      go_wp2_with (first
        | (go_at_call 90; refine (bits_spec h _).mono ?_; rintro e w' ⟨rfl, rfl⟩)
        | (go_at_call 54; refine (from_low _ y0 y1 _).mono ?_; rintro e w' ⟨rfl, rfl⟩))
      go_ret
      exact ⟨ret_f32 (by rw [HT.out, HS.out, Int.toNat_natCast]), rfl⟩
    · have HT := Lib.hid (flw_hi hr)
      have hx : (bits .and .i64 (bitsI b) 2139095040 == 0) = false := by rw [bitsI_num hn, exp_bits hlt, decide_eq_false hr]
      clear hr hlt
      go_enter Try.func57, Try.ntmps57
      go_wp2_with (go_at_call 90; refine (bits_spec h _).mono ?_; rintro e w' ⟨rfl, rfl⟩)
      go_ret
      exact ⟨ret_f32 HT.out.symm, rfl⟩
  · have HT := Lib.hid (flw_hi (nan_hi hn))
    have hx : (bits .and .i64 (bitsI b) 2139095040 == 0) = false := by rw [bitsI_nan hn]; exact exp_none
    clear hlt
    go_enter Try.func57, Try.ntmps57
    go_wp2_with (go_at_call 90; refine (bits_spec h _).mono ?_; rintro e w' ⟨rfl, rfl⟩)
    go_ret
    exact ⟨ret_f32 HT.out.symm, rfl⟩

theorem f_spec {b : Nat} {v : Option Nat} (h : Rep .f32 v b) (w : World) : Calls Try.prog 20 #[.float .f32 b] w fun e w' => e = .returned (.float .f32 (flw b)) ∧ w = w' := by
  go_enter Try.func20, Try.ntmps20
  go_wp2_with (go_at_call 57; refine (l_spec h _).mono ?_; rintro e w' ⟨rfl, rfl⟩)
  go_ret
  exact ⟨rfl, rfl⟩

theorem word64 (s : Bool) (q : Nat) : FloatKind.f64.format.word s q = if s then 9223372036854775808 + q else q := by
  unfold Ieee.Format.word
  rw [show FloatKind.f64.format.signWeight = 9223372036854775808 from rfl]

theorem top0 (q : Nat) (h : q < 9223372036854775808) : (if false = true then 9223372036854775808 + q else q) / 9223372036854775808 * 9223372036854775808 = 0 := by
  rw [if_neg (by decide), Nat.div_eq_of_lt h, Nat.zero_mul]
theorem top1 (q : Nat) (h : q < 9223372036854775808) : (if true = true then 9223372036854775808 + q else q) / 9223372036854775808 * 9223372036854775808 = 9223372036854775808 := by
  rw [if_pos rfl, Nat.add_div_left _ (by decide), Nat.div_eq_of_lt h, Nat.one_mul]

theorem low0 (b : Nat) (h : b < 4294967296) (hs : b / 2147483648 % 2 ≠ 1) : b / 2147483648 * 2147483648 = 0 := by omega
theorem low1 (b : Nat) (h : b < 4294967296) (hs : b / 2147483648 % 2 = 1) : b / 2147483648 * 2147483648 = 2147483648 := by omega

/-- What becomes of a subnormal number. -/
theorem sub_down {b : Nat} (h : b < 4294967296) (hs : subB b = true) : nan .f32 b = false ∧ flw b = FloatKind.f32.encode (FloatKind.f64.decode (upw b / 9223372036854775808 * 9223372036854775808)) ∧
    nan .f64 (upw b / 9223372036854775808 * 9223372036854775808) = false ∧ over (some (upw b / 9223372036854775808 * 9223372036854775808)) = false := by
  simp only [subB, Bool.and_eq_true, decide_eq_true_eq] at hs
  have hI : FloatKind.f32.format.infRung = 2139095040 := rfl
  have hr : rg .f32 b < FloatKind.f32.format.infRung := by rw [hI]; omega
  refine ⟨(not_nan_iff .f32 b).2 (Nat.le_of_lt hr), ?_⟩
  obtain ⟨q, eq, hq, _⟩ := upw_fin b hr
  have hq' : q < 9218868437227405312 := hq
  have hbs : sg .f32 b = (b / 2147483648 % 2 == 1) := rfl
  rw [flw_lo hs.2]
  cases hsg : sg .f32 b
  · have e : upw b / 9223372036854775808 * 9223372036854775808 = 0 := by
      rw [eq, hsg, word64]
      exact top0 q (Nat.lt_trans hq' (by decide))
    have e2 : b / 2147483648 * 2147483648 = 0 := by
      rw [hbs] at hsg
      exact low0 b h (beq_eq_false_iff_ne.1 hsg)
    rw [e, e2]; decide +kernel
  · have e : upw b / 9223372036854775808 * 9223372036854775808 = 9223372036854775808 := by
      rw [eq, hsg, word64]
      exact top1 q (Nat.lt_trans hq' (by decide))
    have e2 : b / 2147483648 * 2147483648 = 2147483648 := by
      rw [hbs] at hsg
      exact low1 b h (beq_iff_eq.1 hsg)
    rw [e, e2]; decide +kernel

theorem not_sub {b : Nat} (h : b < 4294967296) (hs : subB b = false) : flw b = b := by
  by_cases hr : rg .f32 b < 8388608
  · rw [flw_lo hr]
    simp only [subB, decide_eq_true hr, Bool.and_true, decide_eq_false_iff_not] at hs
    rw [rg32] at hs
    omega
  · exact flw_hi hr

theorem f_impl {b : Nat} {v : Option Nat} (h : Rep .f32 v b) (w : World) : Calls Try.prog 21 #[.float .f32 b] w fun e w' => e = .returned (.float .f32 (flw b)) ∧ ∃ n, w' = w.drewN n := by
  cases hs : subB b
  · have HT := Lib.hid (not_sub h.lt hs)
    go_enter Try.func21, Try.ntmps21
    go_wp2_with (go_at_call 58; refine (sub_impl h _).mono ?_; rintro e w' ⟨rfl, n, rfl⟩)
    go_ret
    exact ⟨ret_f32 HT.out.symm, n, rfl⟩
  · obtain ⟨hn, he, h6, ho⟩ := sub_down h.lt hs
    have HT := Lib.hid he
    have hu : Rep .f64 (some (upw b)) (upw b) := rep_some (upw_lt b) (upw_nan hn)
    have hc := fun w => run_upw (P := Try.prog) 22 26 Try.underlying22 Try.underlying26 hn w
    have hd := fun w => run_down_num (P := Try.prog) 26 22 Try.underlying26 Try.underlying22 h6 ho w
    clear he h6 ho hn
    go_enter Try.func21, Try.ntmps21
    go_wp2_with (first
      | (go_at_call 58; refine (sub_impl h _).mono ?_; rintro e w' ⟨rfl, n, rfl⟩)
      | (go_at_call 59; refine (csign_any hu _).mono ?_; rintro e w' ⟨rfl, rfl⟩))
    go_ret
    exact ⟨ret_f32 HT.out.symm, n, rfl⟩

theorem walk (a0 : Nat) (w : World) (w0 : (Lit.float .f32 a0).wf = true) :
    Calls Try.prog 4 #[.float .f32 a0] w fun e w' => e = .returned (.bool true) ∧ Below w.heap.size w w' := by
  have h := rep_wf _ _ w0
  clear w0
  have hr : Rep .f32 (tell .f32 (flw a0)) (flw a0) := rep_tell _ _ (flw_lt _ h.lt)
  go_enter Try.func4, Try.ntmps4
  go_wp2_with (first
    | (refine wpList_up rfl _ _ _ rfl Try.underlying22 Try.underlying26 _ rfl hr ?_; intro r n hu)
    | (go_at_call 20; refine (f_spec h _).mono ?_; rintro e w' ⟨rfl, rfl⟩)
    | (go_at_call 21; refine (f_impl h _).mono ?_; rintro e w' ⟨rfl, k1, rfl⟩)
    | (go_at_call 19; refine (same_any (by assumption) (by assumption) _).mono ?_; rintro e w' ⟨rfl, k, rfl⟩))
  go_ret
  exact ⟨rfl, below_drewN (Below.refl _ _) _⟩
end Go.Proofs.Ytpebdcimbdbbmaa.fnExactFlushNumber
