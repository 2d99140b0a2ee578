/-
  Phasors, powers, products, angles at 64ths of a turn: the program's functions. Conditions: those that each theorem names.
-/
import Derived.Test.YtpebdcimbdbbmaaCirT
import Derived.Test.YtpebdcimbdbbmaaPowW
namespace Go.Proofs.Ytpebdcimbdbbmaa
set_option linter.unusedVariables false
set_option linter.unusedSimpArgs false
open Go.RowKit Flo Mem

theorem ar_rep {op : BinOp} {a b r : Nat} (h : floatBits op .f64 a b = some r) : Rep .f64 (some r) r := rep_some (floatBits_lt h) (floatBits_nan h)

theorem parts_any {a b : Nat} (ha : nan .f32 a = false) (hb : nan .f32 b = false) (w : World) :
    Calls Try.prog 87 #[.complex .f32 a b] w fun e w' => e = .returned (.tuple #[.float .f64 (upw a), .float .f64 (upw b)]) ∧ w = w' := by
  have h1 := fun w => run_upw (P := Try.prog) 22 26 Try.underlying22 Try.underlying26 ha w
  have h2 := fun w => run_upw (P := Try.prog) 22 26 Try.underlying22 Try.underlying26 hb w
  clear ha hb
  go_enter Try.func87, Try.ntmps87
  go_wp2
  go_ret2
  exact ⟨rfl, rfl⟩

theorem power_any {a b p q s : Nat} (ha : nan .f32 a = false) (hb : nan .f32 b = false) (h1 : ar .mul .f64 (some (upw a)) (some (upw a)) = some p) (h2 : ar .mul .f64 (some (upw b)) (some (upw b)) = some q) (h3 : ar .add .f64 (some p) (some q) = some s) (w : World) :
    Calls Try.prog 86 #[.complex .f32 a b] w fun e w' => e = .returned (.float .f64 s) ∧ w = w' := by
  have r1 := fun w => run_float_arith (P := Try.prog) w .mul 26 .f64 _ _ _ h1
  have r2 := fun w => run_float_arith (P := Try.prog) w .mul 26 .f64 _ _ _ h2
  have r3 := fun w => run_float_arith (P := Try.prog) w .add 26 .f64 _ _ _ h3
  clear h1 h2 h3
  go_enter Try.func86, Try.ntmps86
  go_wp2_with (go_at_call 87; refine (parts_any ha hb _).mono ?_; rintro e w' ⟨rfl, rfl⟩)
  go_ret
  exact ⟨rfl, rfl⟩

theorem powerOf_any {a b p q s t : Nat} (ha : nan .f32 a = false) (hb : nan .f32 b = false) (h1 : ar .mul .f64 (some (upw a)) (some (upw a)) = some p) (h2 : ar .mul .f64 (some (upw b)) (some (upw b)) = some q) (h3 : ar .add .f64 (some p) (some q) = some s)
    (ho : over (some s) = false) (hd : down (some s) = some t) (w : World) :
    Calls Try.prog 49 #[.complex .f32 a b] w fun e w' => e = .returned (.float .f32 t) ∧ ∃ n, w' = w.drewN n := by
  have hs := ar_rep (op := .add) h3
  have HD := Lib.hid hd
  clear hd
  go_enter Try.func49, Try.ntmps49
  go_wp2_with (first
    | (go_at_call 86; refine (power_any ha hb h1 h2 h3 _).mono ?_; rintro e w' ⟨rfl, rfl⟩)
    | (refine wpList_down rfl _ _ _ rfl Try.underlying26 Try.underlying22 _ rfl hs ho ?_; intro r3 n3 hr3))
  go_ret
  have := (rp_to hr3 HD.out.symm).some
  subst this
  exact ⟨rfl, _, rfl⟩

theorem multiplied_any {a b c d p q m s t n : Nat} (h1 : ar .mul .f64 (some a) (some c) = some p) (h2 : ar .mul .f64 (some b) (some d) = some q) (h3 : ar .sub .f64 (some p) (some q) = some m)
    (h4 : ar .mul .f64 (some a) (some d) = some s) (h5 : ar .mul .f64 (some b) (some c) = some t) (h6 : ar .add .f64 (some s) (some t) = some n) (w : World) :
    Calls Try.prog 88 #[.float .f64 a, .float .f64 b, .float .f64 c, .float .f64 d] w fun e w' => e = .returned (.tuple #[.float .f64 m, .float .f64 n]) ∧ w = w' := by
  have r1 := fun w => run_float_arith (P := Try.prog) w .mul 26 .f64 _ _ _ h1
  have r2 := fun w => run_float_arith (P := Try.prog) w .mul 26 .f64 _ _ _ h2
  have r3 := fun w => run_float_arith (P := Try.prog) w .sub 26 .f64 _ _ _ h3
  have r4 := fun w => run_float_arith (P := Try.prog) w .mul 26 .f64 _ _ _ h4
  have r5 := fun w => run_float_arith (P := Try.prog) w .mul 26 .f64 _ _ _ h5
  have r6 := fun w => run_float_arith (P := Try.prog) w .add 26 .f64 _ _ _ h6
  clear h1 h2 h3 h4 h5 h6
  go_enter Try.func88, Try.ntmps88
  go_wp2
  go_ret2
  exact ⟨rfl, rfl⟩

theorem mul_any {a b c d p q m s t n x y : Nat} (na : nan .f32 a = false) (nb : nan .f32 b = false) (nc : nan .f32 c = false) (nd : nan .f32 d = false)
    (h1 : ar .mul .f64 (some (upw a)) (some (upw c)) = some p) (h2 : ar .mul .f64 (some (upw b)) (some (upw d)) = some q) (h3 : ar .sub .f64 (some p) (some q) = some m)
    (h4 : ar .mul .f64 (some (upw a)) (some (upw d)) = some s) (h5 : ar .mul .f64 (some (upw b)) (some (upw c)) = some t) (h6 : ar .add .f64 (some s) (some t) = some n)
    (om : over (some m) = false) (on : over (some n) = false) (dm : down (some m) = some x) (dn : down (some n) = some y) (w : World) :
    Calls Try.prog 51 #[.complex .f32 a b, .complex .f32 c d] w fun e w' => e = .returned (.complex .f32 x y) ∧ ∃ n, w' = w.drewN n := by
  have rm := ar_rep (op := .sub) h3
  have rn := ar_rep (op := .add) h6
  have HM := Lib.hid dm
  have HN := Lib.hid dn
  clear dm dn
  go_enter Try.func51, Try.ntmps51
  go_wp2_with (first
    | (go_at_call 87; first
        | (with_reducible refine (parts_any na nb _).mono ?_; rintro e w' ⟨rfl, rfl⟩)
        | (with_reducible refine (parts_any nc nd _).mono ?_; rintro e w' ⟨rfl, rfl⟩))
    | (go_at_call 88; refine (multiplied_any h1 h2 h3 h4 h5 h6 _).mono ?_; rintro e w' ⟨rfl, rfl⟩)
    | (refine wpList_down rfl _ _ _ rfl Try.underlying26 Try.underlying22 _ rfl rm om ?_; intro r3 n3 hr3; obtain rfl := (rp_to hr3 HM.out.symm).some)
    | (refine wpList_down rfl _ _ _ rfl Try.underlying26 Try.underlying22 _ rfl rn on ?_; intro r4 n4 hr4; obtain rfl := (rp_to hr4 HN.out.symm).some))
  go_ret
  exact ⟨rfl, _, rfl⟩

theorem near_any {a b c d g h : Nat} (na : nan .f32 a = false) (nb : nan .f32 b = false) (nc : nan .f32 c = false) (nd : nan .f32 d = false) (hg : gapV (some (upw a)) (some (upw c)) = some g) (hh : gapV (some (upw b)) (some (upw d)) = some h)
    (lg : cm .leq .f64 (some g) (some 4547007122018943789) = true) (lh : cm .leq .f64 (some h) (some 4547007122018943789) = true) (w : World) :
    Calls Try.prog 50 #[.complex .f32 a b, .complex .f32 c d, .float .f64 4547007122018943789] w fun e w' => e = .returned (.bool true) ∧ w = w' := by
  have ra : Rep .f64 (some (upw a)) (upw a) := rep_some (upw_lt a) (upw_nan na)
  have rb : Rep .f64 (some (upw b)) (upw b) := rep_some (upw_lt b) (upw_nan nb)
  have rc : Rep .f64 (some (upw c)) (upw c) := rep_some (upw_lt c) (upw_nan nc)
  have rd : Rep .f64 (some (upw d)) (upw d) := rep_some (upw_lt d) (upw_nan nd)
  have ua := fun w => run_upw (P := Try.prog) 22 26 Try.underlying22 Try.underlying26 na w
  have ub := fun w => run_upw (P := Try.prog) 22 26 Try.underlying22 Try.underlying26 nb w
  have uc := fun w => run_upw (P := Try.prog) 22 26 Try.underlying22 Try.underlying26 nc w
  have ud := fun w => run_upw (P := Try.prog) 22 26 Try.underlying22 Try.underlying26 nd w
  have l1 : (FloatKind.f64.format.order g 4547007122018943789 == some .lt || FloatKind.f64.format.order g 4547007122018943789 == some .eq) = true := lg
  have l2 : (FloatKind.f64.format.order h 4547007122018943789 == some .lt || FloatKind.f64.format.order h 4547007122018943789 == some .eq) = true := lh
  have G1 := fun w => gap_any ra rc hg w
  have G2 := fun w => gap_any rb rd hh w
  clear lg lh na nb nc nd ra rb rc rd hg hh
  go_enter Try.func50, Try.ntmps50
  go_wp2_with (go_at_call 47; first
    | ((with_reducible refine (G1 _).mono ?_); rintro e w' ⟨rfl, rfl⟩)
    | ((with_reducible refine (G2 _).mono ?_); rintro e w' ⟨rfl, rfl⟩))
  go_ret
  exact ⟨rfl, rfl⟩

theorem angle_any {a b t : Nat} {o xn yn : Bool} (h : AngC b a o xn yn) (hd : down (angV (absw (upw b)) (absw (upw a)) o xn yn) = some t) (w : World) :
    Calls Try.prog 48 #[.complex .f32 a b] w fun e w' => e = .returned (.float .f32 t) ∧ ∃ n, w' = w.drewN n := by
  have H := Lib.hid h
  have HD := Lib.hid hd
  clear h hd
  go_enter Try.func48, Try.ntmps48
  go_wp2_with (go_at_call 44; refine (ang_impl H.out _).mono ?_; rintro e w' ⟨r, rfl, hr, n, rfl⟩; obtain rfl := (rp_to hr HD.out.symm).some)
  go_ret
  exact ⟨rfl, _, rfl⟩

/-! ### At the tables -/

theorem c_rep32 {b : Nat} (h : rg .f32 b < FloatKind.f32.format.infRung) (hl : b < 4294967296) : Rep .f32 (tell .f32 b) b := rep_tell _ _ hl
theorem c_nan {b : Nat} (h : rg .f32 b < FloatKind.f32.format.infRung) : nan .f32 b = false := (not_nan_iff .f32 _).2 (Nat.le_of_lt h)
theorem angC_r {r : Nat} (hr : r < 64) : AngC (cI r) (cR r) (AO.getD r false) (AX.getD r false) (AY.getD r false) := by
  obtain ⟨f1, f2, l1, l2⟩ := c_fin r hr
  obtain ⟨h1, h2, h3, h4⟩ := c_ang r hr
  exact ⟨c_rep32 f2 l2, c_rep32 f1 l1, f2, f1, h1, h2, h3, h4⟩
theorem angle_r {r : Nat} (hr : r < 64) (w : World) : Calls Try.prog 48 #[.complex .f32 (cR r) (cI r)] w fun e w' => e = .returned (.float .f32 (aT r)) ∧ ∃ n, w' = w.drewN n :=
  angle_any (angC_r hr) (c_at r hr).1 w

theorem phC_k {k : Nat} (hk : k < 511) : PhC (xk k) (k % 64 / 16) (fB (k % 64 % 16)) (fB (16 - k % 64 % 16)) := by
  obtain ⟨_, h1, h2, h3, h4⟩ := c_x k hk
  have hf := c_fr k hk
  have hr : k % 64 < 64 := Nat.mod_lt _ (by decide)
  have hs : k % 64 % 16 < 16 := Nat.mod_lt _ (by decide)
  obtain ⟨q1, q2⟩ := c_f (k % 64) hr
  obtain ⟨s1, s2, s3, s4, s5⟩ := c_s (k % 64 % 16) (by omega)
  obtain ⟨d1, d2, d3, d4, _⟩ := c_s (16 - k % 64 % 16) (by omega)
  obtain ⟨s6, s7⟩ := s5 hs
  have hx : Rep .f64 (some (xk k)) (xk k) := rep_some h2 h1
  refine ⟨hx, small_bd h3, ⟨by rw [hf]; exact q1, by rw [hf]; exact q2, s6, rep_some s2 s1, ⟨_, rfl, s3, s4⟩, by omega⟩, s7, rep_some d2 d1, Bd.mono ⟨_, rfl, d3, d4⟩ (by decide)⟩
theorem phasor_k {k : Nat} (hk : k < 511) (w : World) : Calls Try.prog 41 #[.float .f64 (xk k)] w fun e w' => e = .returned (.complex .f32 (cR (k % 64)) (cI (k % 64))) ∧ ∃ n, w' = w.drewN n := by
  have hr : k % 64 < 64 := Nat.mod_lt _ (by decide)
  refine (ph_impl (phC_k hk) (c_x k hk).2.2.2.1 w).mono ?_
  rintro e w' ⟨a, b, rfl, ha, hb, n, rfl⟩
  obtain ⟨p1, p2⟩ := c_ph (k % 64) hr
  rw [c_sin _ (by omega), c_sin _ (by omega), p1] at ha
  rw [c_sin _ (by omega), c_sin _ (by omega), p2] at hb
  rw [ha.some, hb.some]
  exact ⟨rfl, n, rfl⟩
end Go.Proofs.Ytpebdcimbdbbmaa
