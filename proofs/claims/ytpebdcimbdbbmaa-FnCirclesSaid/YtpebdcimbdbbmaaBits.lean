/-
  The bits of a float32: what the reference's function gives, the library's under it, and facts on the exponent's bits. Conditions: the bits are a float's.
-/
import Derived.Test.YtpebdcimbdbbmaaWide
namespace Go.Proofs.Ytpebdcimbdbbmaa
open Go.RowKit Flo

theorem call_bits32 (b : Nat) (w : World) : (callFunc 103 #[.float .f32 b]).run Try.prog w = .ok (.value (.int .u32 b)) w := by
  rw [run_callFunc_extern Try.func103 (by kernel_rfl) (by kernel_rfl) (by kernel_rfl) (e := Extern.MathFloatBits.float32bits) (by kernel_rfl)]
  rfl

/-- The bits; of a NaN those of one NaN. -/
def bitsI (b : Nat) : Int := if nan .f32 b then 2143289344 else (b : Int)

theorem bitsI_nan {b : Nat} (h : nan .f32 b = true) : bitsI b = 2143289344 := by simp [bitsI, h]
theorem bitsI_num {b : Nat} (h : nan .f32 b = false) : bitsI b = (b : Int) := by simp [bitsI, h]
theorem ret_i64 {a b : Int} (h : a = b) : Ending.returned (.int .i64 a) = .returned (.int .i64 b) := by rw [h]
theorem bitsI_of {v : Option Nat} {x y : Nat} (h : Rep .f32 v x) (h2 : Rep .f32 v y) : bitsI x = bitsI y := by
  cases v with
  | none => rw [bitsI_nan h.none, bitsI_nan h2.none]
  | some c => rw [h.some, h2.some]

theorem lt32 {v : Option Nat} {x : Nat} (h : Rep .f32 v x) : (x : Int) ≤ 4294967295 := by
  have : x < 4294967296 := h.lt
  omega

theorem bits_spec {b : Nat} {v : Option Nat} (h : Rep .f32 v b) (w : World) : Calls Try.prog 90 #[.float .f32 b] w fun e w' => e = .returned (.int .i64 (bitsI b)) ∧ w = w' := by
  have hc := call_bits32
  have hl := lt32 h
  cases hn : nan .f32 b
  · have ho := order_self hn
    have HB := Lib.hid (bitsI_num hn)
    go_enter Try.func90, Try.ntmps90
    go_wp2
    go_ret
    exact ⟨ret_i64 HB.out.symm, rfl⟩
  · have ho := order_nan hn
    have HB := Lib.hid (bitsI_nan hn)
    go_enter Try.func90, Try.ntmps90
    go_wp2
    go_ret
    exact ⟨ret_i64 HB.out.symm, rfl⟩

theorem bits_le (b : Nat) (h : b < 4294967296) : 0 ≤ bitsI b ∧ bitsI b ≤ 4294967295 := by
  unfold bitsI; split <;> omega

/-! ### The exponent's bits -/

theorem exp_and (b : Nat) : b &&& 2139095040 = b / 8388608 % 256 * 8388608 := by
  have h1 : (b &&& 2139095040) % 2 ^ 23 = 0 := by
    rw [Nat.and_mod_two_pow]
    rw [show 2139095040 % 2 ^ 23 = 0 from rfl, Nat.and_zero]
  have h2 : (b &&& 2139095040) >>> 23 = (b >>> 23) &&& 255 := by
    rw [Nat.shiftRight_and_distrib, show 2139095040 >>> 23 = 255 from rfl]
  rw [Nat.shiftRight_eq_div_pow, Nat.shiftRight_eq_div_pow] at h2
  have h3 : (b / 2 ^ 23) &&& 255 = b / 2 ^ 23 % 256 := Nat.and_two_pow_sub_one_eq_mod (b / 2 ^ 23) 8
  rw [h3] at h2
  have h4 := Nat.div_add_mod (b &&& 2139095040) (2 ^ 23)
  rw [h1, h2] at h4
  omega

/-- Is it subnormal? -/
def subB (b : Nat) : Bool := decide (0 < rg .f32 b) && decide (rg .f32 b < 8388608)

theorem rg32 (b : Nat) : rg .f32 b = b % 2147483648 := rfl

theorem zero_test (b : Nat) (h : nan .f32 b = false) : (FloatKind.f32.format.order b 0 == some .eq) = decide (rg .f32 b = 0) := by
  have hz : sv .f32 0 = 0 := by decide +kernel
  rw [order_sv .f32 b 0 h (by decide +kernel), hz, cmp_int]
  have hB := binade_pos .f32
  have h0 : mg FloatKind.f32.format.binade 0 = 0 := by unfold mg; rw [if_pos hB]
  unfold sv
  by_cases hr : rg .f32 b = 0
  · rw [hr, h0]; simp
  · have := mg_lt hB (show 0 < rg .f32 b by omega)
    rw [h0] at this
    rw [decide_eq_false hr]
    cases sg .f32 b
    · simp only [Bool.false_eq_true, if_false]; rw [if_neg (by omega), if_neg (by omega)]; rfl
    · simp only [if_true]; rw [if_pos (by omega)]; rfl

theorem exp_test (b : Nat) : ((b &&& 2139095040 : Nat) : Int) = 0 ↔ rg .f32 b < 8388608 := by
  rw [exp_and, rg32]
  omega

theorem low_test (b : Nat) (h : nan .f32 b = false) : (FloatKind.f64.format.order (absw (upw b)) 4039728865751334912 == some .lt) = decide (rg .f32 b < 8388608) := by
  have hB := binade_pos .f64
  rw [order_pos .f64 _ _ (by rw [absw_nan]; exact upw_nan h) (by decide +kernel) (absw_sg _) (by decide +kernel), absw_rg]
  rw [show rg .f64 4039728865751334912 = 4039728865751334912 from by decide +kernel]
  have hc : mg FloatKind.f64.format.binade 4039728865751334912 = mg FloatKind.f32.format.binade 8388608 * 2 ^ E9 := by decide +kernel
  have h1 := (not_nan_iff .f32 b).1 h
  show (some (compareOfLessAndEq (rg .f64 (upw b)) 4039728865751334912) == some .lt) = _
  have key : rg .f64 (upw b) < 4039728865751334912 ↔ rg .f32 b < 8388608 := by
    rcases Nat.lt_or_eq_of_le h1 with h2 | h2
    · obtain ⟨q, eq, hq, hm⟩ := upw_fin b h2
      rw [eq, (word_sg .f64 _ _ (Nat.le_of_lt hq)).2]
      constructor
      · intro hlt
        have h3 := mg_lt hB hlt
        rw [hm, hc] at h3
        rcases Nat.lt_or_ge (rg .f32 b) 8388608 with h4 | h4
        · exact h4
        · have h5 := Nat.mul_le_mul_right (2 ^ E9) (mg_le (binade_pos .f32) h4)
          omega
      · intro hlt
        have h3 := Nat.mul_lt_mul_of_pos_right (mg_lt (binade_pos .f32) hlt) (Nat.two_pow_pos E9)
        rw [← hm, ← hc] at h3
        rcases Nat.lt_or_ge q 4039728865751334912 with h4 | h4
        · exact h4
        · have h5 := mg_le hB h4
          omega
    · rw [upw_inf b h2, (word_sg .f64 _ _ (Nat.le_refl _)).2, h2]
      constructor
      · intro h; exact absurd h (by decide +kernel)
      · intro h; exact absurd h (by decide +kernel)
  unfold compareOfLessAndEq
  by_cases hlt : rg .f32 b < 8388608
  · rw [if_pos (key.2 hlt), decide_eq_true hlt]; rfl
  · rw [if_neg (fun hh => hlt (key.1 hh)), decide_eq_false hlt]
    split <;> rfl
end Go.Proofs.Ytpebdcimbdbbmaa
