/-
  The walk of the law on circles: it returns true. Conditions: the arguments are lists of bytes.
-/
import Derived.Test.YtpebdcimbdbbmaaCirW
import Derived.Test.YtpebdcimbdbbmaaTnA
import Derived.Test.YtpebdcimbdbbmaaBits
import Derived.WalkSmall
namespace Go.Proofs.Ytpebdcimbdbbmaa.fnCircles
set_option linter.unusedVariables false
set_option linter.unusedSimpArgs false
open Go.RowKit Flo Mem

def sameB (a b : Nat) : Bool := bitsI a == bitsI b

theorem s_low {a b : Nat} {v u : Option Nat} (h : Rep .f32 v a) (k : Rep .f32 u b) (w : World) : Calls Try.prog 89 #[.float .f32 a, .float .f32 b] w fun e w' => e = .returned (.bool (sameB a b)) ∧ w = w' := by
  go_enter Try.func89, Try.ntmps89
  go_wp2_with fail
  refine (bits_spec h _).mono ?_
  rintro e w' ⟨rfl, rfl⟩
  go_wp2_with fail
  refine (bits_spec k _).mono ?_
  rintro e w' ⟨rfl, rfl⟩
  go_wp2_with fail
  go_ret
  exact ⟨rfl, rfl⟩

theorem s_spec {a b : Nat} {v u : Option Nat} (h : Rep .f32 v a) (k : Rep .f32 u b) (w : World) : Calls Try.prog 52 #[.float .f32 a, .float .f32 b] w fun e w' => e = .returned (.bool (sameB a b)) ∧ w = w' := by
  go_enter Try.func52, Try.ntmps52
  go_wp2_with (go_at_call 89; refine (s_low h k _).mono ?_; rintro e w' ⟨rfl, rfl⟩)
  go_ret
  exact ⟨rfl, rfl⟩

set_option maxHeartbeats 1000000 in
theorem ten_any {b N : Nat} (h : TnC b N) (w : World) : Calls Try.prog 39 #[.float .f32 b] w fun e w' => e = .returned (.tuple #[.int .i64 ((N : Int) - 1000), .bool true]) ∧ ∃ n, w' = w.drewN n := by
  have hrep : Rep .f32 (tell .f32 b) b := rep_tell _ _ (Nat.lt_trans h.lt (by decide))
  have hn := (not_nan_iff .f32 b).2 (Nat.le_of_lt h.fin)
  have hp := up_ps h.fin h.pos
  have hru : Rep .f64 (some (upw b)) (upw b) := rep_some (upw_lt b) (upw_nan hn)
  have hc := fun w => run_upw (P := Try.prog) 22 26 Try.underlying22 Try.underlying26 hn w
  have c1 := fnExactTenthsOf.rep_k
  have c2 := fnExactTenthsOf.rep_h
  have hend : endS b = true := decide_eq_true h.fin
  have ho := h.pos
  have HN := Lib.hid h.n
  clear h
  go_enter Try.func39, Try.ntmps39
  go_wp2_with (first
    | (go_at_call 73; refine (finite_impl hrep _).mono ?_; rintro e w' ⟨rfl, n, rfl⟩)
    | (go_at_call 74; refine (log_impl hru hp _).mono ?_; rintro e w' ⟨r2, rfl, hr2, hb2, n2, rfl⟩)
    | (refine wpList_ar rfl _ _ _ _ _ rfl rfl _ _ _ rfl rfl hr2 c1 ?_; intro r3 n3 hr3)
    | (refine wpList_ar rfl _ _ _ _ _ rfl rfl _ _ _ rfl rfl hr3 c2 ?_; intro r4 n4 hr4; obtain ⟨g1, g2⟩ := fnExactTenthsOf.tV_n hb2 hr4; have hcv := fnExactTenthsOf.cv_int (g2.trans (congrArg some HN.out)); clear g2)
    | (go_at_call 80; refine (floor_any g1 _).mono ?_; rintro e w' ⟨rfl, rfl⟩))
  go_ret2
  exact ⟨rfl, _, rfl⟩

/-- All that the law reckons with, for two choices. -/
structure CirC (i j X Y Z R1 I1 R2 I2 R3 I3 T M D S P G U V G2 G3 : Nat) (n : Int) : Prop where
  qx : ∀ w, (binOp .quo 26 (.float .f64 (floatOfInt .f64 ((i : Int) - 128))) (.float .f64 4634204016564240384)).run Try.prog w = .ok (.float .f64 X) w
  qy : ∀ w, (binOp .quo 26 (.float .f64 (floatOfInt .f64 ((j : Int) - 128))) (.float .f64 4634204016564240384)).run Try.prog w = .ok (.float .f64 Y) w
  qz : ∀ w, (binOp .quo 26 (.float .f64 (floatOfInt .f64 ((i : Int) - 128 + ((j : Int) - 128)))) (.float .f64 4634204016564240384)).run Try.prog w = .ok (.float .f64 Z) w
  px : ∀ w, Calls Try.prog 41 #[.float .f64 X] w fun e w' => e = .returned (.complex .f32 R1 I1) ∧ ∃ n, w' = w.drewN n
  py : ∀ w, Calls Try.prog 41 #[.float .f64 Y] w fun e w' => e = .returned (.complex .f32 R2 I2) ∧ ∃ n, w' = w.drewN n
  pz : ∀ w, Calls Try.prog 41 #[.float .f64 Z] w fun e w' => e = .returned (.complex .f32 R3 I3) ∧ ∃ n, w' = w.drewN n
  an : ∀ w, Calls Try.prog 48 #[.complex .f32 R1 I1] w fun e w' => e = .returned (.float .f32 T) ∧ ∃ n, w' = w.drewN n
  uT : ∀ w, (convert 22 26 (.float .f32 T)).run Try.prog w = .ok (.float .f64 (upw T)) w
  mt : ∀ w, (binOp .mul 26 (.float .f64 (upw T)) (.float .f64 4634204016564240384)).run Try.prog w = .ok (.float .f64 M) w
  sd : ∀ w, (binOp .sub 26 (.float .f64 M) (.float .f64 (floatOfInt .f64 ((i : Int) - 128)))).run Try.prog w = .ok (.float .f64 D) w
  ad : ∀ w, (binOp .add 26 (.float .f64 D) (.float .f64 4666723447345250304)).run Try.prog w = .ok (.float .f64 S) w
  ci : ∀ w, (convert 26 2 (.float .f64 S)).run Try.prog w = .ok (.int .i64 n) w
  n0 : 9000 ≤ n
  n1 : n ≤ 11000
  nr : (n - 10000) % 64 = 0
  pw : ∀ w, Calls Try.prog 49 #[.complex .f32 R1 I1] w fun e w' => e = .returned (.float .f32 P) ∧ ∃ n, w' = w.drewN n
  uP : ∀ w, (convert 22 26 (.float .f32 P)).run Try.prog w = .ok (.float .f64 (upw P)) w
  gp : ∀ w, Calls Try.prog 47 #[.float .f64 (upw P), .float .f64 4607182418800017408] w fun e w' => e = .returned (.float .f64 G) ∧ w = w'
  g : (FloatKind.f64.format.order G 4547007122018943789 == some .gt) = false
  mu : ∀ w, Calls Try.prog 51 #[.complex .f32 R1 I1, .complex .f32 R2 I2] w fun e w' => e = .returned (.complex .f32 U V) ∧ ∃ n, w' = w.drewN n
  nn : ∀ w, Calls Try.prog 50 #[.complex .f32 U V, .complex .f32 R3 I3, .float .f64 4547007122018943789] w fun e w' => e = .returned (.bool true) ∧ w = w'
  g2p : ∀ w, Calls Try.prog 47 #[.float .f64 D, .float .f64 (floatOfInt .f64 (n - 10000))] w fun e w' => e = .returned (.float .f64 G2) ∧ w = w'
  g2 : (FloatKind.f64.format.order G2 4562254508917369340 == some .gt) = false
  uR : ∀ w, (convert 22 26 (.float .f32 R1)).run Try.prog w = .ok (.float .f64 (upw R1)) w
  g3p : i % 16 = 0 → ∀ w, Calls Try.prog 47 #[.float .f64 (upw R1), .float .f64 0] w fun e w' => e = .returned (.float .f64 G3) ∧ w = w'
  g3 : i % 16 = 0 → (FloatKind.f64.format.order G3 0 == some .eq) = true ∨ ((FloatKind.f64.format.order G3 0 == some .eq) = false ∧ (FloatKind.f64.format.order G3 4607182418800017408 == some .eq) = true)

theorem rp_up {b : Nat} (hn : nan .f32 b = false) : Rep .f64 (some (upw b)) (upw b) := rep_some (upw_lt b) (upw_nan hn)
theorem cv_up {b : Nat} (hn : nan .f32 b = false) (w : World) : (convert 22 26 (.float .f32 b)).run Try.prog w = .ok (.float .f64 (upw b)) w := run_upw (P := Try.prog) 22 26 Try.underlying22 Try.underlying26 hn w
theorem rep_fi (n : Int) : Rep .f64 (some (floatOfInt .f64 n)) (floatOfInt .f64 n) := fe_rep n

theorem cir_c {i j X : Nat} (hi : i < 256) (hj : j < 256) (hX : xk (i + 128) = X) : ∃ Y Z R1 I1 R2 I2 R3 I3 T M D S P G U V G2 G3 n, CirC i j X Y Z R1 I1 R2 I2 R3 I3 T M D S P G U V G2 G3 n := by
  subst hX
  have ri : (i + 128) % 64 = i % 64 := by omega
  have rj : (j + 128) % 64 = j % 64 := by omega
  have hri : i % 64 < 64 := Nat.mod_lt _ (by decide)
  have hrj : j % 64 < 64 := Nat.mod_lt _ (by decide)
  have rk : (i % 64 + j % 64) % 64 = (i + j) % 64 := by omega
  obtain ⟨a1, a2, _, _⟩ := c_fin (i % 64) hri
  obtain ⟨b1, b2, _, _⟩ := c_fin (j % 64) hrj
  obtain ⟨d1, d2, _, _⟩ := c_fin ((i + j) % 64) (Nat.mod_lt _ (by decide))
  have na1 := c_nan a1
  have na2 := c_nan a2
  have nb1 := c_nan b1
  have nb2 := c_nan b2
  have nd1 := c_nan d1
  have nd2 := c_nan d2
  have nT := (c_at (i % 64) hri).2
  -- the power
  have hp := pw_ok (i % 64) hri
  unfold pwE at hp
  obtain ⟨p1, hp1, hp⟩ := fb_eq hp
  obtain ⟨p2, hp2, hp⟩ := fb_eq hp
  obtain ⟨p3, hp3, hp⟩ := fb_eq hp
  simp only [Bool.and_eq_true, Bool.not_eq_true'] at hp
  obtain ⟨po, hp⟩ := hp
  obtain ⟨P, hP, hp⟩ := fb_eq hp
  simp only [Bool.and_eq_true, Bool.not_eq_true'] at hp
  obtain ⟨nP, hp⟩ := hp
  obtain ⟨G, hG, hg⟩ := gapF_eq hp
  simp only [Bool.not_eq_true'] at hg
  -- the product
  have hm := mu_ok (i % 64) hri (j % 64) hrj
  unfold muE at hm
  obtain ⟨m1, hm1, hm⟩ := fb_eq hm
  obtain ⟨m2, hm2, hm⟩ := fb_eq hm
  obtain ⟨m3, hm3, hm⟩ := fb_eq hm
  obtain ⟨m4, hm4, hm⟩ := fb_eq hm
  obtain ⟨m5, hm5, hm⟩ := fb_eq hm
  obtain ⟨m6, hm6, hm⟩ := fb_eq hm
  simp only [Bool.and_eq_true, Bool.not_eq_true'] at hm
  obtain ⟨mo1, mo2, hm⟩ := hm
  obtain ⟨U, hU, hm⟩ := fb_eq hm
  obtain ⟨V, hV, hm⟩ := fb_eq hm
  simp only [Bool.and_eq_true, Bool.not_eq_true'] at hm
  obtain ⟨nU, nV, hm⟩ := hm
  obtain ⟨e1, he1, hm⟩ := gapF_eq hm
  obtain ⟨e2, he2, hm⟩ := gapF_eq hm
  simp only [Bool.and_eq_true] at hm
  rw [rk] at he1 he2
  -- the turn
  have ht := tu_ok i hi
  unfold tuE at ht
  obtain ⟨M, hM, ht⟩ := fb_eq ht
  obtain ⟨D, hD, ht⟩ := fb_eq ht
  obtain ⟨S, hS, ht⟩ := fb_eq ht
  obtain ⟨n, hn⟩ : ∃ n, floatToIntVal .f64 S .i64 = some n := by
    cases h : floatToIntVal .f64 S .i64 with
    | none => rw [h] at ht; cases ht
    | some n => exact ⟨n, rfl⟩
  rw [hn] at ht
  simp only [Bool.and_eq_true, decide_eq_true_eq] at ht
  obtain ⟨⟨n0, n1, n2⟩, ht⟩ := ht
  obtain ⟨G2, hG2, hg2⟩ := gapF_eq ht
  simp only [Bool.not_eq_true'] at hg2
  -- the quarters
  obtain ⟨G3, hG3⟩ : ∃ G3, i % 16 = 0 → gapV (some (upw (cR (i % 64)))) (some 0) = some G3 ∧ (cm .eql .f64 (some G3) (some 0) || cm .eql .f64 (some G3) (some one6)) = true := by
    by_cases h16 : i % 16 = 0
    · have hq := qu_ok (i % 64 / 16) (by omega)
      rw [show 16 * (i % 64 / 16) = i % 64 by omega] at hq
      obtain ⟨G3, h1, h2⟩ := gapF_eq hq
      exact ⟨G3, fun _ => ⟨h1, h2⟩⟩
    · exact ⟨0, fun h => absurd h h16⟩
  have rD : Rep .f64 (some D) D := ar_rep (op := .sub) hD
  have qx := (c_x (i + 128) (by omega)).1
  have qy := (c_x (j + 128) (by omega)).1
  have qz := (c_x (i + j) (by omega)).1
  rw [show ((i + 128 : Nat) : Int) - 256 = (i : Int) - 128 by omega] at qx
  rw [show ((j + 128 : Nat) : Int) - 256 = (j : Int) - 128 by omega] at qy
  rw [show ((i + j : Nat) : Int) - 256 = (i : Int) - 128 + ((j : Int) - 128) by omega] at qz
  have px := fun w => phasor_k (k := i + 128) (by omega) w
  have py := fun w => phasor_k (k := j + 128) (by omega) w
  have pz := fun w => phasor_k (k := i + j) (by omega) w
  rw [ri] at px
  rw [rj] at py
  refine ⟨xk (j + 128), xk (i + j), cR (i % 64), cI (i % 64), cR (j % 64), cI (j % 64), cR ((i + j) % 64), cI ((i + j) % 64), aT (i % 64), M, D, S, P, G, U, V, G2, G3, n, ?_⟩
  exact {
    qx := fun w => run_float_arith (P := Try.prog) w .quo 26 .f64 _ _ _ qx
    qy := fun w => run_float_arith (P := Try.prog) w .quo 26 .f64 _ _ _ qy
    qz := fun w => run_float_arith (P := Try.prog) w .quo 26 .f64 _ _ _ qz
    px := px
    py := py
    pz := pz
    an := fun w => angle_r hri w
    uT := cv_up nT
    mt := fun w => run_float_arith (P := Try.prog) w .mul 26 .f64 _ _ _ hM
    sd := fun w => run_float_arith (P := Try.prog) w .sub 26 .f64 _ _ _ hD
    ad := fun w => run_float_arith (P := Try.prog) w .add 26 .f64 _ _ _ hS
    ci := fun w => fnExactTenthsOf.cv_int hn w
    n0 := n0
    n1 := n1
    nr := n2
    pw := fun w => powerOf_any na1 na2 hp1 hp2 hp3 po hP w
    uP := cv_up nP
    gp := fun w => gap_any (rp_up nP) rep_one hG w
    g := hg
    mu := fun w => mul_any na1 na2 nb1 nb2 hm1 hm2 hm3 hm4 hm5 hm6 mo1 mo2 hU hV w
    nn := fun w => near_any nU nV nd1 nd2 he1 he2 hm.1 hm.2 w
    g2p := fun w => gap_any rD (rep_fi _) hG2 w
    g2 := hg2
    uR := cv_up na1
    g3p := fun h w => gap_any (rp_up na1) rep_z6 (hG3 h).1 w
    g3 := fun h => by
      have h2 := (hG3 h).2
      cases h3 : cm .eql .f64 (some G3) (some 0)
      · rw [h3, Bool.false_or] at h2
        exact .inr ⟨h3, h2⟩
      · exact .inl h3 }

theorem tmod_zero {a k : Int} (h : a % k = 0) : a.tmod k = 0 := Int.tmod_eq_zero_of_dvd (Int.dvd_of_emod_eq_zero h)
theorem tmod_not {a k : Int} (h : a % k ≠ 0) : a.tmod k ≠ 0 := fun h2 => h (Int.emod_eq_zero_of_dvd (Int.dvd_of_tmod_eq_zero h2))
theorem up_one (w : World) : Calls Try.prog 48 #[.complex .f32 0 1065353216] w fun e w' => e = .returned (.float .f32 (aT 16)) ∧ ∃ n, w' = w.drewN n := by
  have h := angle_r (r := 16) (by decide) w
  rw [c_i.1, c_i.2.1] at h
  exact h
theorem same_no (w : World) : Calls Try.prog 52 #[.float .f32 (aT 16), .float .f32 0] w fun e w' => e = .returned (.bool false) ∧ w = w' := by
  have h := s_spec (rep_lit .f32 (aT 16) (by decide +kernel)) (rep_lit .f32 0 (by decide +kernel)) w
  rw [show sameB (aT 16) 0 = false by decide +kernel] at h
  exact h

theorem one_c : ∃ t : Nat, (∀ w, Calls Try.prog 48 #[.complex .f32 0 1065353216] w fun e w' => e = .returned (.float .f32 t) ∧ ∃ n, w' = w.drewN n) ∧
    ∀ w, Calls Try.prog 52 #[.float .f32 t, .float .f32 0] w fun e w' => e = .returned (.bool false) ∧ w = w' := ⟨aT 16, up_one, same_no⟩
theorem quo_x {u : Nat} (hu : u < 200) : ∃ x, xq u = x ∧ ∀ w, (binOp .quo 22 (.float .f32 (floatOfInt .f32 (1 + (u : Int)))) (.float .f32 1090519040)).run Try.prog w = .ok (.float .f32 x) w := by
  have h := xq_is u hu
  rw [Int.add_comm] at h
  exact ⟨_, rfl, fun w => run_float_arith (P := Try.prog) w .quo 22 .f32 _ _ _ h⟩
theorem ten_one (w : World) : Calls Try.prog 39 #[.float .f32 1065353216] w fun e w' => e = .returned (.tuple #[.int .i64 0, .bool true]) ∧ ∃ n, w' = w.drewN n := ten_any one_is w
/-- The tenths of two numbers and of their product. -/
structure TenC (x y b N N2 L : Nat) : Prop where
  mb : ∀ w, (binOp .mul 22 (.float .f32 x) (.float .f32 y)).run Try.prog w = .ok (.float .f32 b) w
  tx : ∀ w, Calls Try.prog 39 #[.float .f32 x] w fun e w' => e = .returned (.tuple #[.int .i64 ((N : Int) - 1000), .bool true]) ∧ ∃ n, w' = w.drewN n
  ty : ∀ w, Calls Try.prog 39 #[.float .f32 y] w fun e w' => e = .returned (.tuple #[.int .i64 ((N2 : Int) - 1000), .bool true]) ∧ ∃ n, w' = w.drewN n
  tz : ∀ w, Calls Try.prog 39 #[.float .f32 b] w fun e w' => e = .returned (.tuple #[.int .i64 ((L : Int) - 1000), .bool true]) ∧ ∃ n, w' = w.drewN n
  i1 : N + N2 ≤ L + 1001
  i2 : L + 1000 ≤ N + N2 + 1
  i3 : N ≤ 5000
  i4 : N2 ≤ 5000
  i5 : L ≤ 5000
theorem ten_c {u v x y : Nat} (hu : u < 200) (hv : v < 200) (hx : xq u = x) (hy : xq v = y) : ∃ b N N2 L, TenC x y b N N2 L := by
  subst hx hy
  obtain ⟨b, N, N2, L, hb, t1, t2, t3, i1, i2, i3, i4, i5⟩ := pr_is hu hv
  exact ⟨b, N, N2, L, fun w => run_float_arith (P := Try.prog) w .mul 22 .f32 _ _ _ hb, fun w => ten_any t1 w, fun w => ten_any t2 w, fun w => ten_any t3 w, i1, i2, i3, i4, i5⟩

set_option maxRecDepth 100000 in
set_option maxHeartbeats 16000000 in
theorem walk (A0 : Option Addr) (n c : Nat) (zs : List Int) (B0 : Option Addr) (m d : Nat) (ys : List Int) (w : World)
    (h1 : Sl w A0 n (valsU zs)) (hn : n ≤ 9223372036854775807) (hz : ∀ z ∈ zs, (Lit.int .u8 z).wf = true) (h2 : Sl w B0 m (valsU ys)) (hm : m ≤ 9223372036854775807) (hy : ∀ z ∈ ys, (Lit.int .u8 z).wf = true) :
    Calls Try.prog 16 #[.slice A0 n c, .slice B0 m d] w fun e w' => e = .returned (.bool true) ∧ Below w.heap.size w w' := by
  have HA := Lib.hid h1
  have HB := Lib.hid h2
  have HZ := Lib.hid hz
  have HY := Lib.hid hy
  have hn' := Lib.hid hn
  have hm' := Lib.hid hm
  clear h1 h2 hz hy hn hm
  go_enter Try.func16, Try.ntmps16
  go_wp2_with fail
  refine (long_any A0 n c B0 m d hn'.out hm'.out _).mono ?_
  rintro e w1 ⟨⟨t, rfl, ht⟩, rfl⟩
  cases t
  · obtain ⟨l1, l2⟩ := ht rfl
    clear ht
    go_wp2_with fail
    refine (at_any A0 n c zs HZ.out 0 256 (by omega) (by omega) (by omega) (by omega) _ HA.out l1).mono ?_
    rintro e w2 ⟨⟨z1, rfl, p1, q1⟩, rfl⟩
    obtain ⟨i, rfl⟩ : ∃ i : Nat, z1 = (i : Int) := ⟨z1.toNat, by omega⟩
    go_wp2_with fail
    refine (at_any A0 n c zs HZ.out 1 256 (by omega) (by omega) (by omega) (by omega) _ HA.out l1).mono ?_
    rintro e w2 ⟨⟨z2, rfl, p2, q2⟩, rfl⟩
    obtain ⟨j, rfl⟩ : ∃ j : Nat, z2 = (j : Int) := ⟨z2.toNat, by omega⟩
    obtain ⟨Y, Z, R1, I1, R2, I2, R3, I3, T, M, D, S, P, G, U, V, G2, G3, q, HC⟩ := cir_c (i := i) (j := j) (by omega) (by omega) rfl
    generalize xk (i + 128) = X at HC
    have qx := HC.qx
    have qy := HC.qy
    have qz := HC.qz
    have uT := HC.uT
    have mt := HC.mt
    have sd := HC.sd
    have ad := HC.ad
    have ci := HC.ci
    have n0 := HC.n0
    have n1 := HC.n1
    have nr := tmod_zero HC.nr
    have uP := HC.uP
    have g := HC.g
    have g2 := HC.g2
    have uR := HC.uR
    have K := Lib.hid HC
    clear HC
    by_cases h16 : i % 16 = 0
    · have t16 : ((i : Int) - 128).tmod 16 = 0 := tmod_zero (by omega)
      have g3p := Lib.hid (K.out.g3p h16)
      rcases K.out.g3 h16 with g3 | ⟨g3, g4⟩
      · have k3 := eq_of_beq g3
        go_wp2_with (first
          | (go_at_call 41; first
              | ((with_reducible refine (K.out.px _).mono ?_); rintro e w' ⟨rfl, n, rfl⟩)
              | ((with_reducible refine (K.out.py _).mono ?_); rintro e w' ⟨rfl, n, rfl⟩)
              | ((with_reducible refine (K.out.pz _).mono ?_); rintro e w' ⟨rfl, n, rfl⟩))
          | (go_at_call 48; (with_reducible refine (K.out.an _).mono ?_); rintro e w' ⟨rfl, n, rfl⟩)
          | (go_at_call 49; (with_reducible refine (K.out.pw _).mono ?_); rintro e w' ⟨rfl, n, rfl⟩)
          | (go_at_call 51; (with_reducible refine (K.out.mu _).mono ?_); rintro e w' ⟨rfl, n, rfl⟩)
          | (go_at_call 50; (with_reducible refine (K.out.nn _).mono ?_); rintro e w' ⟨rfl, rfl⟩)
          | (go_at_call 47; first
              | ((with_reducible refine (K.out.gp _).mono ?_); rintro e w' ⟨rfl, rfl⟩)
              | ((with_reducible refine (K.out.g2p _).mono ?_); rintro e w' ⟨rfl, rfl⟩)
              | ((with_reducible refine (g3p.out _).mono ?_); rintro e w' ⟨rfl, rfl⟩)))
        refine (at_any B0 m d ys HY.out 0 200 (by omega) (by omega) (by omega) (by omega) _ (by exact HB.out) l2).mono ?_
        rintro e w2 ⟨⟨z3, rfl, p3, q3⟩, rfl⟩
        obtain ⟨u, rfl⟩ : ∃ u : Nat, z3 = (u : Int) := ⟨z3.toNat, by omega⟩
        obtain ⟨xu, hxu, qu⟩ := quo_x (u := u) (by omega)
        go_wp2_with fail
        refine (at_any B0 m d ys HY.out 1 200 (by omega) (by omega) (by omega) (by omega) _ (by exact HB.out) l2).mono ?_
        rintro e w2 ⟨⟨z4, rfl, p4, q4⟩, rfl⟩
        obtain ⟨v, rfl⟩ : ∃ v : Nat, z4 = (v : Int) := ⟨z4.toNat, by omega⟩
        obtain ⟨xv, hxv, qv⟩ := quo_x (u := v) (by omega)
        obtain ⟨t1, hup, hsn⟩ := one_c
        have HU := Lib.hid hup
        have HS := Lib.hid hsn
        clear hup hsn
        obtain ⟨b, N, N2, L, HT⟩ := ten_c (u := u) (v := v) (by omega) (by omega) hxu hxv
        have mb := HT.mb
        have i1 := HT.i1
        have i2 := HT.i2
        have i3 := HT.i3
        have i4 := HT.i4
        have i5 := HT.i5
        have KT := Lib.hid HT
        clear HT hxu hxv
        go_wp2_with (first
          | (go_at_call 39; first
              | ((with_reducible refine (KT.out.tx _).mono ?_); rintro e w' ⟨rfl, n, rfl⟩)
              | ((with_reducible refine (KT.out.ty _).mono ?_); rintro e w' ⟨rfl, n, rfl⟩)
              | ((with_reducible refine (KT.out.tz _).mono ?_); rintro e w' ⟨rfl, n, rfl⟩)
              | ((with_reducible refine (ten_one _).mono ?_); rintro e w' ⟨rfl, n, rfl⟩))
          | (go_at_call 48; (with_reducible refine (HU.out _).mono ?_); rintro e w' ⟨rfl, n, rfl⟩)
          | (go_at_call 52; (with_reducible refine (HS.out _).mono ?_); rintro e w' ⟨rfl, rfl⟩))
        go_ret
        exact ⟨rfl, below_drewN (Below.refl _ _) _⟩
      · have k3 : ¬_ := ne_of_beq_false g3
        have k4 := eq_of_beq g4
        go_wp2_with (first
          | (go_at_call 41; first
              | ((with_reducible refine (K.out.px _).mono ?_); rintro e w' ⟨rfl, n, rfl⟩)
              | ((with_reducible refine (K.out.py _).mono ?_); rintro e w' ⟨rfl, n, rfl⟩)
              | ((with_reducible refine (K.out.pz _).mono ?_); rintro e w' ⟨rfl, n, rfl⟩))
          | (go_at_call 48; (with_reducible refine (K.out.an _).mono ?_); rintro e w' ⟨rfl, n, rfl⟩)
          | (go_at_call 49; (with_reducible refine (K.out.pw _).mono ?_); rintro e w' ⟨rfl, n, rfl⟩)
          | (go_at_call 51; (with_reducible refine (K.out.mu _).mono ?_); rintro e w' ⟨rfl, n, rfl⟩)
          | (go_at_call 50; (with_reducible refine (K.out.nn _).mono ?_); rintro e w' ⟨rfl, rfl⟩)
          | (go_at_call 47; first
              | ((with_reducible refine (K.out.gp _).mono ?_); rintro e w' ⟨rfl, rfl⟩)
              | ((with_reducible refine (K.out.g2p _).mono ?_); rintro e w' ⟨rfl, rfl⟩)
              | ((with_reducible refine (g3p.out _).mono ?_); rintro e w' ⟨rfl, rfl⟩)))
        refine (at_any B0 m d ys HY.out 0 200 (by omega) (by omega) (by omega) (by omega) _ (by exact HB.out) l2).mono ?_
        rintro e w2 ⟨⟨z3, rfl, p3, q3⟩, rfl⟩
        obtain ⟨u, rfl⟩ : ∃ u : Nat, z3 = (u : Int) := ⟨z3.toNat, by omega⟩
        obtain ⟨xu, hxu, qu⟩ := quo_x (u := u) (by omega)
        go_wp2_with fail
        refine (at_any B0 m d ys HY.out 1 200 (by omega) (by omega) (by omega) (by omega) _ (by exact HB.out) l2).mono ?_
        rintro e w2 ⟨⟨z4, rfl, p4, q4⟩, rfl⟩
        obtain ⟨v, rfl⟩ : ∃ v : Nat, z4 = (v : Int) := ⟨z4.toNat, by omega⟩
        obtain ⟨xv, hxv, qv⟩ := quo_x (u := v) (by omega)
        obtain ⟨t1, hup, hsn⟩ := one_c
        have HU := Lib.hid hup
        have HS := Lib.hid hsn
        clear hup hsn
        obtain ⟨b, N, N2, L, HT⟩ := ten_c (u := u) (v := v) (by omega) (by omega) hxu hxv
        have mb := HT.mb
        have i1 := HT.i1
        have i2 := HT.i2
        have i3 := HT.i3
        have i4 := HT.i4
        have i5 := HT.i5
        have KT := Lib.hid HT
        clear HT hxu hxv
        go_wp2_with (first
          | (go_at_call 39; first
              | ((with_reducible refine (KT.out.tx _).mono ?_); rintro e w' ⟨rfl, n, rfl⟩)
              | ((with_reducible refine (KT.out.ty _).mono ?_); rintro e w' ⟨rfl, n, rfl⟩)
              | ((with_reducible refine (KT.out.tz _).mono ?_); rintro e w' ⟨rfl, n, rfl⟩)
              | ((with_reducible refine (ten_one _).mono ?_); rintro e w' ⟨rfl, n, rfl⟩))
          | (go_at_call 48; (with_reducible refine (HU.out _).mono ?_); rintro e w' ⟨rfl, n, rfl⟩)
          | (go_at_call 52; (with_reducible refine (HS.out _).mono ?_); rintro e w' ⟨rfl, rfl⟩))
        go_ret
        exact ⟨rfl, below_drewN (Below.refl _ _) _⟩
    · have t16 : ((i : Int) - 128).tmod 16 ≠ 0 := tmod_not (by omega)
      go_wp2_with (first
        | (go_at_call 41; first
            | ((with_reducible refine (K.out.px _).mono ?_); rintro e w' ⟨rfl, n, rfl⟩)
            | ((with_reducible refine (K.out.py _).mono ?_); rintro e w' ⟨rfl, n, rfl⟩)
            | ((with_reducible refine (K.out.pz _).mono ?_); rintro e w' ⟨rfl, n, rfl⟩))
        | (go_at_call 48; (with_reducible refine (K.out.an _).mono ?_); rintro e w' ⟨rfl, n, rfl⟩)
        | (go_at_call 49; (with_reducible refine (K.out.pw _).mono ?_); rintro e w' ⟨rfl, n, rfl⟩)
        | (go_at_call 51; (with_reducible refine (K.out.mu _).mono ?_); rintro e w' ⟨rfl, n, rfl⟩)
        | (go_at_call 50; (with_reducible refine (K.out.nn _).mono ?_); rintro e w' ⟨rfl, rfl⟩)
        | (go_at_call 47; first
            | ((with_reducible refine (K.out.gp _).mono ?_); rintro e w' ⟨rfl, rfl⟩)
            | ((with_reducible refine (K.out.g2p _).mono ?_); rintro e w' ⟨rfl, rfl⟩)
            | ((with_reducible refine (g3p.out _).mono ?_); rintro e w' ⟨rfl, rfl⟩)))
      refine (at_any B0 m d ys HY.out 0 200 (by omega) (by omega) (by omega) (by omega) _ (by exact HB.out) l2).mono ?_
      rintro e w2 ⟨⟨z3, rfl, p3, q3⟩, rfl⟩
      obtain ⟨u, rfl⟩ : ∃ u : Nat, z3 = (u : Int) := ⟨z3.toNat, by omega⟩
      obtain ⟨xu, hxu, qu⟩ := quo_x (u := u) (by omega)
      go_wp2_with fail
      refine (at_any B0 m d ys HY.out 1 200 (by omega) (by omega) (by omega) (by omega) _ (by exact HB.out) l2).mono ?_
      rintro e w2 ⟨⟨z4, rfl, p4, q4⟩, rfl⟩
      obtain ⟨v, rfl⟩ : ∃ v : Nat, z4 = (v : Int) := ⟨z4.toNat, by omega⟩
      obtain ⟨xv, hxv, qv⟩ := quo_x (u := v) (by omega)
      obtain ⟨t1, hup, hsn⟩ := one_c
      have HU := Lib.hid hup
      have HS := Lib.hid hsn
      clear hup hsn
      obtain ⟨b, N, N2, L, HT⟩ := ten_c (u := u) (v := v) (by omega) (by omega) hxu hxv
      have mb := HT.mb
      have i1 := HT.i1
      have i2 := HT.i2
      have i3 := HT.i3
      have i4 := HT.i4
      have i5 := HT.i5
      have KT := Lib.hid HT
      clear HT hxu hxv
      go_wp2_with (first
        | (go_at_call 39; first
            | ((with_reducible refine (KT.out.tx _).mono ?_); rintro e w' ⟨rfl, n, rfl⟩)
            | ((with_reducible refine (KT.out.ty _).mono ?_); rintro e w' ⟨rfl, n, rfl⟩)
            | ((with_reducible refine (KT.out.tz _).mono ?_); rintro e w' ⟨rfl, n, rfl⟩)
            | ((with_reducible refine (ten_one _).mono ?_); rintro e w' ⟨rfl, n, rfl⟩))
        | (go_at_call 48; (with_reducible refine (HU.out _).mono ?_); rintro e w' ⟨rfl, n, rfl⟩)
        | (go_at_call 52; (with_reducible refine (HS.out _).mono ?_); rintro e w' ⟨rfl, rfl⟩))
      go_ret
      exact ⟨rfl, below_drewN (Below.refl _ _) _⟩
  · clear ht
    go_wp2_with fail
    go_ret
    exact ⟨rfl, Below.refl _ _⟩
end Go.Proofs.Ytpebdcimbdbbmaa.fnCircles
