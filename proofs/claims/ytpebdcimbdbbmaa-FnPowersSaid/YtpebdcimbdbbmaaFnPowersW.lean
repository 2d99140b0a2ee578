/-
  The walk of the law on powers and logarithms: it returns true. Conditions: the arguments are lists of bytes.
-/
import Derived.Test.YtpebdcimbdbbmaaPowW
import Derived.WalkSmall
namespace Go.Proofs.Ytpebdcimbdbbmaa.fnPowers
set_option linter.unusedVariables false
set_option linter.unusedSimpArgs false
open Go.RowKit Flo Mem

theorem exp_k {k : Nat} (hk : k < 129) (w : World) : Calls Try.prog 31 #[.float .f32 (xB k)] w fun e w' => e = .returned (.float .f32 (eB k)) ∧ ∃ n, w' = w.drewN n := by
  obtain ⟨h1, _, h2, h3⟩ := t_fin k hk
  obtain ⟨h4, h5⟩ := t_exp k hk
  exact exp_any h1 h2 h3 h4 h5 w
theorem log_k {i : Nat} (hi : i < 65) (w : World) : Calls Try.prog 35 #[.float .f32 (eB (i + 32))] w fun e w' => e = .returned (.float .f32 (lB i)) ∧ ∃ n, w' = w.drewN n := by
  obtain ⟨h1, h2, h3⟩ := t_pos (i + 32) (by omega)
  obtain ⟨h4, h5, h6, h7, h8⟩ := t_log i hi
  have e := lgV_eq ⟨_, _, h4, h5, h6, h7, rfl⟩
  rw [← e] at h8
  refine log_any (rep_tell _ _ h3) h1 h2 h8 w
theorem up_k {b : Nat} (hn : nan .f32 b = false) (w : World) : (convert 22 26 (.float .f32 b)).run Try.prog w = .ok (.float .f64 (upw b)) w := run_upw (P := Try.prog) 22 26 Try.underlying22 Try.underlying26 hn w
theorem rep_up_k {b : Nat} (hn : nan .f32 b = false) : Rep .f64 (some (upw b)) (upw b) := rep_some (upw_lt b) (upw_nan hn)
theorem pos_nan {k : Nat} (hk : k < 129) : nan .f32 (eB k) = false := (not_nan_iff .f32 _).2 (Nat.le_of_lt (t_pos k hk).1)
theorem x64 : xB 64 = 0 ∧ eB 64 = 1065353216 ∧ lB 32 = 0 := by decide +kernel
theorem exp_zero (w : World) : Calls Try.prog 31 #[.float .f32 0] w fun e w' => e = .returned (.float .f32 1065353216) ∧ ∃ n, w' = w.drewN n := by
  have h := exp_k (k := 64) (by decide) w
  rw [x64.1, x64.2.1] at h
  exact h
theorem log_one (w : World) : Calls Try.prog 35 #[.float .f32 1065353216] w fun e w' => e = .returned (.float .f32 0) ∧ ∃ n, w' = w.drewN n := by
  have h := log_k (i := 32) (by decide) w
  rw [show 32 + 32 = 64 from rfl, x64.2.1, x64.2.2] at h
  exact h
theorem lss_some {v u : Option Nat} (h : cm .lss .f64 v u = true) : ∃ a b, v = some a ∧ u = some b ∧ (FloatKind.f64.format.order a b == some .lt) = true := by
  cases v with
  | none => cases h
  | some a =>
    cases u with
    | none => cases h
    | some b => exact ⟨a, b, rfl, rfl, h⟩
theorem gap_none {u : Option Nat} : gapV none u = none := by
  unfold gapV
  split
  · cases u <;> rfl
  · rfl

/-- All that the law reckons with, for two choices. -/
structure PowC (i j X Y Z A B C L G M H T : Nat) : Prop where
  qx : ∀ w, (binOp .quo 22 (.float .f32 (floatOfInt .f32 ((i : Int) - 32))) (.float .f32 1090519040)).run Try.prog w = .ok (.float .f32 X) w
  qy : ∀ w, (binOp .quo 22 (.float .f32 (floatOfInt .f32 ((j : Int) - 32))) (.float .f32 1090519040)).run Try.prog w = .ok (.float .f32 Y) w
  ad : ∀ w, (binOp .add 22 (.float .f32 X) (.float .f32 Y)).run Try.prog w = .ok (.float .f32 Z) w
  ex : ∀ w, Calls Try.prog 31 #[.float .f32 X] w fun e w' => e = .returned (.float .f32 A) ∧ ∃ n, w' = w.drewN n
  ey : ∀ w, Calls Try.prog 31 #[.float .f32 Y] w fun e w' => e = .returned (.float .f32 B) ∧ ∃ n, w' = w.drewN n
  ez : ∀ w, Calls Try.prog 31 #[.float .f32 Z] w fun e w' => e = .returned (.float .f32 C) ∧ ∃ n, w' = w.drewN n
  lg : ∀ w, Calls Try.prog 35 #[.float .f32 A] w fun e w' => e = .returned (.float .f32 L) ∧ ∃ n, w' = w.drewN n
  uL : ∀ w, (convert 22 26 (.float .f32 L)).run Try.prog w = .ok (.float .f64 (upw L)) w
  uX : ∀ w, (convert 22 26 (.float .f32 X)).run Try.prog w = .ok (.float .f64 (upw X)) w
  uA : ∀ w, (convert 22 26 (.float .f32 A)).run Try.prog w = .ok (.float .f64 (upw A)) w
  uB : ∀ w, (convert 22 26 (.float .f32 B)).run Try.prog w = .ok (.float .f64 (upw B)) w
  uC : ∀ w, (convert 22 26 (.float .f32 C)).run Try.prog w = .ok (.float .f64 (upw C)) w
  gp : ∀ w, Calls Try.prog 47 #[.float .f64 (upw L), .float .f64 (upw X)] w fun e w' => e = .returned (.float .f64 G) ∧ w = w'
  g : (FloatKind.f64.format.order G 4562254508917369340 == some .lt) = true
  mu : ∀ w, (binOp .mul 26 (.float .f64 (upw A)) (.float .f64 (upw B))).run Try.prog w = .ok (.float .f64 M) w
  hp : ∀ w, Calls Try.prog 47 #[.float .f64 M, .float .f64 (upw C)] w fun e w' => e = .returned (.float .f64 H) ∧ w = w'
  mt : ∀ w, (binOp .mul 26 (.float .f64 4562254508917369340) (.float .f64 (upw C))).run Try.prog w = .ok (.float .f64 T) w
  h : (FloatKind.f64.format.order H T == some .lt) = true
  pos : (FloatKind.f32.format.order A 0 == some .gt) = true

theorem pow_c {i j X : Nat} (hi : i < 65) (hj : j < 65) (hX : xB (i + 32) = X) : ∃ Y Z A B C L G M H T, PowC i j X Y Z A B C L G M H T := by
  subst hX
  have n1 := pos_nan (k := i + 32) (by omega)
  have n2 := pos_nan (k := j + 32) (by omega)
  have n3 := pos_nan (k := i + j) (by omega)
  have n4 := (t_near i hi).2
  have n5 := (t_fin (i + 32) (by omega)).1
  obtain ⟨G, c1, hG, e1, hg⟩ := lss_some (t_near i hi).1
  injection e1 with e1
  subst e1
  obtain ⟨H, T, hH, hT, hh⟩ := lss_some (t_pair i hi j hj)
  obtain ⟨M, hM⟩ : ∃ M, ar .mul .f64 (some (upw (eB (i + 32)))) (some (upw (eB (j + 32)))) = some M := by
    cases e : ar .mul .f64 (some (upw (eB (i + 32)))) (some (upw (eB (j + 32)))) with
    | none => rw [e, gap_none] at hH; cases hH
    | some M => exact ⟨M, rfl⟩
  rw [hM] at hH
  have rM : Rep .f64 (some M) M := by
    have h1 : floatBits .mul .f64 (upw (eB (i + 32))) (upw (eB (j + 32))) = some M := hM
    exact rep_some (floatBits_lt h1) (floatBits_nan h1)
  exact ⟨xB (j + 32), xB (i + j), eB (i + 32), eB (j + 32), eB (i + j), lB i, G, M, H, T,
    fun w => run_float_arith (P := Try.prog) w .quo 22 .f32 _ _ _ (t_x i hi), fun w => run_float_arith (P := Try.prog) w .quo 22 .f32 _ _ _ (t_x j hj),
    fun w => run_float_arith (P := Try.prog) w .add 22 .f32 _ _ _ (t_add i hi j hj), exp_k (by omega), exp_k (by omega), exp_k (by omega), log_k hi, up_k n4, up_k n5, up_k n1, up_k n2, up_k n3,
    gap_any (rep_up_k n4) (rep_up_k n5) hG, hg, fun w => run_float_arith (P := Try.prog) w .mul 26 .f64 _ _ _ hM, gap_any rM (rep_up_k n3) hH,
    fun w => run_float_arith (P := Try.prog) w .mul 26 .f64 _ _ _ hT, hh, by rw [(t_pos (i + 32) (by omega)).2.1]; rfl⟩

set_option maxHeartbeats 4000000 in
theorem walk (A0 : Option Addr) (n c : Nat) (zs : List Int) (B0 : Option Addr) (m d : Nat) (ys : List Int) (w : World)
    (h1 : Sl w A0 n (valsU zs)) (hn : n ≤ 9223372036854775807) (hz : ∀ z ∈ zs, (Lit.int .u8 z).wf = true) (h2 : Sl w B0 m (valsU ys)) (hm : m ≤ 9223372036854775807) (hy : ∀ z ∈ ys, (Lit.int .u8 z).wf = true) :
    Calls Try.prog 15 #[.slice A0 n c, .slice B0 m d] w fun e w' => e = .returned (.bool true) ∧ Below w.heap.size w w' := by
  have HA := Lib.hid h1
  have HB := Lib.hid h2
  have HZ := Lib.hid hz
  have HY := Lib.hid hy
  have hn' := Lib.hid hn
  have hm' := Lib.hid hm
  clear h1 h2 hz hy hn hm
  go_enter Try.func15, Try.ntmps15
  go_wp2_with fail
  refine (long_any A0 n c B0 m d hn'.out hm'.out _).mono ?_
  rintro e w1 ⟨⟨t, rfl, ht⟩, rfl⟩
  cases t
  · obtain ⟨l1, l2⟩ := ht rfl
    clear ht
    go_wp2_with fail
    refine (at_any A0 n c zs HZ.out 0 65 (by omega) (by omega) (by omega) (by omega) _ HA.out l1).mono ?_
    rintro e w2 ⟨⟨z1, rfl, p1, q1⟩, rfl⟩
    obtain ⟨i, rfl⟩ : ∃ i : Nat, z1 = (i : Int) := ⟨z1.toNat, by omega⟩
    have hi : i < 65 := by omega
    obtain ⟨X, hX, qx⟩ : ∃ X, xB (i + 32) = X ∧ ∀ w, (binOp .quo 22 (.float .f32 (floatOfInt .f32 ((i : Int) - 32))) (.float .f32 1090519040)).run Try.prog w = .ok (.float .f32 X) w :=
      ⟨_, rfl, fun w => run_float_arith (P := Try.prog) w .quo 22 .f32 _ _ _ (t_x i hi)⟩
    have KX := Lib.hid hX
    clear hX hi
    go_wp2_with fail
    refine (at_any B0 m d ys HY.out 0 65 (by omega) (by omega) (by omega) (by omega) _ HB.out l2).mono ?_
    rintro e w2 ⟨⟨z2, rfl, p2, q2⟩, rfl⟩
    obtain ⟨j, rfl⟩ : ∃ j : Nat, z2 = (j : Int) := ⟨z2.toNat, by omega⟩
    obtain ⟨Y, Z, A, B, C, L, G, M, H, T, HC⟩ := pow_c (i := i) (j := j) (by omega) (by omega) KX.out
    clear qx
    have qx := HC.qx
    have qy := HC.qy
    have ad := HC.ad
    have uL := HC.uL
    have uX := HC.uX
    have uA := HC.uA
    have uB := HC.uB
    have uC := HC.uC
    have g := HC.g
    have mu := HC.mu
    have mt := HC.mt
    have h := HC.h
    have pos := HC.pos
    have k1 : (FloatKind.f32.format.order 1065353216 1065353216 == some .eq) = true := by decide +kernel
    have k2 : (FloatKind.f32.format.order 0 0 == some .eq) = true := by decide +kernel
    have K := Lib.hid HC
    clear HC
    go_wp2_with (first
      | (go_at_call 31; first
          | ((with_reducible refine (K.out.ex _).mono ?_); rintro e w' ⟨rfl, n, rfl⟩)
          | ((with_reducible refine (K.out.ey _).mono ?_); rintro e w' ⟨rfl, n, rfl⟩)
          | ((with_reducible refine (K.out.ez _).mono ?_); rintro e w' ⟨rfl, n, rfl⟩)
          | ((with_reducible refine (exp_zero _).mono ?_); rintro e w' ⟨rfl, n, rfl⟩))
      | (go_at_call 35; first
          | ((with_reducible refine (K.out.lg _).mono ?_); rintro e w' ⟨rfl, n, rfl⟩)
          | ((with_reducible refine (log_one _).mono ?_); rintro e w' ⟨rfl, n, rfl⟩))
      | (go_at_call 47; first
          | ((with_reducible refine (K.out.gp _).mono ?_); rintro e w' ⟨rfl, rfl⟩)
          | ((with_reducible refine (K.out.hp _).mono ?_); rintro e w' ⟨rfl, rfl⟩)))
    go_ret
    exact ⟨rfl, below_drewN (Below.refl _ _) _⟩
  · clear ht
    go_wp2_with fail
    go_ret
    exact ⟨rfl, Below.refl _ _⟩
end Go.Proofs.Ytpebdcimbdbbmaa.fnPowers
