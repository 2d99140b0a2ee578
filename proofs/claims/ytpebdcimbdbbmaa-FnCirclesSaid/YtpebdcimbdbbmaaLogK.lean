/-
  The reference's logarithm at a NaN, a negative number, zero, infinity; the kinds of a float32. Conditions: those that each theorem names.
-/
import Derived.Test.YtpebdcimbdbbmaaLogS
import Derived.Test.YtpebdcimbdbbmaaSame
namespace Go.Proofs.Ytpebdcimbdbbmaa
open Go.RowKit Flo

theorem nan_call (w : World) : Calls Try.prog 72 #[] w fun e w' => e = .returned (.float .f64 9221120237041090561) ∧ w = w' := by
  have hf := call_from64
  go_enter Try.func72, Try.ntmps72
  go_wp2
  go_ret
  exact ⟨rfl, rfl⟩
theorem inf_call (w : World) : Calls Try.prog 68 #[.int .i64 (-1)] w fun e w' => e = .returned (.float .f64 18442240474082181120) ∧ w = w' := by
  have hf := call_from64
  go_enter Try.func68, Try.ntmps68
  go_wp2
  go_ret
  exact ⟨rfl, rfl⟩
theorem rep_nan : Rep .f64 none 9221120237041090561 := ⟨by decide +kernel, by decide +kernel⟩
theorem rep_ninf : Rep .f64 (some 18442240474082181120) 18442240474082181120 := rep_lit _ _ (by decide +kernel)

theorem lw_nan {y : Nat} (h : FloatKind.f64.format.order y y = none) (w : World) : Calls Try.prog 96 #[.float .f64 y] w fun e w' => e = .returned (.float .f64 9221120237041090561) ∧ w = w' := by
  go_enter Try.func96, Try.ntmps96
  go_wp2_with (go_at_call 72; refine (nan_call _).mono ?_; rintro e w' ⟨rfl, rfl⟩)
  go_ret
  exact ⟨rfl, rfl⟩
theorem lw_neg {y : Nat} (h : FloatKind.f64.format.order y y = some .eq) (h2 : FloatKind.f64.format.order y 0 = some .lt) (w : World) : Calls Try.prog 96 #[.float .f64 y] w fun e w' => e = .returned (.float .f64 9221120237041090561) ∧ w = w' := by
  go_enter Try.func96, Try.ntmps96
  go_wp2_with (go_at_call 72; refine (nan_call _).mono ?_; rintro e w' ⟨rfl, rfl⟩)
  go_ret
  exact ⟨rfl, rfl⟩
theorem lw_zero {y : Nat} (h : FloatKind.f64.format.order y y = some .eq) (h2 : FloatKind.f64.format.order y 0 = some .eq) (w : World) : Calls Try.prog 96 #[.float .f64 y] w fun e w' => e = .returned (.float .f64 18442240474082181120) ∧ w = w' := by
  go_enter Try.func96, Try.ntmps96
  go_wp2_with (go_at_call 68; refine (inf_call _).mono ?_; rintro e w' ⟨rfl, rfl⟩)
  go_ret
  exact ⟨rfl, rfl⟩
theorem lw_inf {y : Nat} (h : FloatKind.f64.format.order y y = some .eq) (h2 : FloatKind.f64.format.order y 0 = some .gt) (h3 : (FloatKind.f64.format.order y 9218868437227405311 == some .gt) = true) (w : World) : Calls Try.prog 96 #[.float .f64 y] w fun e w' => e = .returned (.float .f64 y) ∧ w = w' := by
  go_enter Try.func96, Try.ntmps96
  go_wp2_with (go_at_call 101; refine (inf_one h3 _).mono ?_; rintro e w' ⟨rfl, rfl⟩)
  go_ret
  exact ⟨rfl, rfl⟩

/-! ### The kinds of a float32 -/

theorem order0 {b : Nat} (h : nan .f32 b = false) : FloatKind.f64.format.order (upw b) 0 = FloatKind.f32.format.order b 0 := by
  have h0 : upw 0 = 0 := by decide +kernel
  have := order_up h (show nan .f32 0 = false by decide +kernel)
  rw [h0] at this
  exact this
theorem up_ps0 {b : Nat} (h : rg .f32 b < FloatKind.f32.format.infRung) (hg : FloatKind.f32.format.order b 0 = some .gt) : Ps .f64 (some (upw b)) E9 1202 := by
  have hn := (not_nan_iff .f32 b).2 (Nat.le_of_lt h)
  have h64 := order0 hn
  rw [hg] at h64
  obtain ⟨c, e, hr, hu⟩ := bd_up h
  injection e with e
  subst e
  rw [order_sv .f64 _ 0 (upw_nan hn) (by decide +kernel), show sv .f64 0 = 0 by decide +kernel, cmp_int] at h64
  have hpos : 0 < sv .f64 (upw b) := by
    by_cases h1 : sv .f64 (upw b) < 0
    · rw [if_pos h1] at h64; cases h64
    · rw [if_neg h1] at h64
      by_cases h2 : sv .f64 (upw b) = 0
      · rw [if_pos h2] at h64; cases h64
      · omega
  have hs : sg .f64 (upw b) = false := by
    cases hs : sg .f64 (upw b)
    · rfl
    · unfold sv at hpos
      rw [hs] at hpos
      simp only [if_true] at hpos
      omega
  refine ⟨_, rfl, hs, hr, ?_, hu⟩
  have e1 := up_sv h
  rw [sv_pos hs] at e1
  have hp1 : 1 ≤ sv .f32 b := by
    rcases Int.lt_or_le 0 (sv .f32 b) with h1 | h1
    · omega
    · exfalso
      have hX : (0 : Int) ≤ ((2 ^ E9 : Nat) : Int) := Int.natCast_nonneg _
      have h2 := Int.mul_nonneg (show 0 ≤ -sv .f32 b by omega) hX
      rw [Int.neg_mul, ← e1, ← sv_pos hs] at h2
      omega
  have h3 : (1 : Int) * ((2 ^ E9 : Nat) : Int) ≤ sv .f32 b * ((2 ^ E9 : Nat) : Int) := Int.mul_le_mul_of_nonneg_right hp1 (Int.natCast_nonneg _)
  rw [← e1, Int.one_mul] at h3
  exact Int.ofNat_le.1 h3
theorem up_ps {b : Nat} (h : rg .f32 b < FloatKind.f32.format.infRung) (hg : FloatKind.f32.format.order b 0 = some .gt) : Ps .f64 (some (upw b)) 925 1202 := (up_ps0 h hg).mono (by decide) (Nat.le_refl _)

/-- The kinds: NaN, negative, zero, positive infinity, positive. -/
theorem kinds {b : Nat} (hb : b < 4294967296) : nan .f32 b = true ∨ (nan .f32 b = false ∧ FloatKind.f32.format.order b 0 = some .lt) ∨ (nan .f32 b = false ∧ FloatKind.f32.format.order b 0 = some .eq) ∨ b = 2139095040 ∨ (rg .f32 b < FloatKind.f32.format.infRung ∧ FloatKind.f32.format.order b 0 = some .gt) := by
  cases hn : nan .f32 b
  · right
    have ho := order_sv .f32 b 0 hn (by decide +kernel)
    rw [show sv .f32 0 = 0 by decide +kernel, cmp_int] at ho
    by_cases h1 : sv .f32 b < 0
    · rw [if_pos h1] at ho; exact .inl ⟨rfl, ho⟩
    · rw [if_neg h1] at ho
      by_cases h2 : sv .f32 b = 0
      · rw [if_pos h2] at ho; exact .inr (.inl ⟨rfl, ho⟩)
      · rw [if_neg h2] at ho
        right; right
        rcases Nat.lt_or_eq_of_le ((not_nan_iff .f32 b).1 hn) with h3 | h3
        · exact .inr ⟨h3, ho⟩
        · left
          have h4 := sv_inf h3
          have hs : sg .f32 b = false := by
            cases hs : sg .f32 b
            · rfl
            · rw [hs] at h4
              simp only [if_true] at h4
              omega
          have h5 := word_of .f32 b hb
          rw [hs, h3] at h5
          exact h5.symm
  · exact .inl rfl

end Go.Proofs.Ytpebdcimbdbbmaa
