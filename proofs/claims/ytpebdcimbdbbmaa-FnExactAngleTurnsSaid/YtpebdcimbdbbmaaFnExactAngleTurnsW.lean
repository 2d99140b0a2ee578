/-
  The walk of the law on AngleTurns: it returns true. Conditions: the arguments are floats.
-/
import Derived.Test.YtpebdcimbdbbmaaAngS
import Derived.WalkSmall
namespace Go.Proofs.Ytpebdcimbdbbmaa.fnExactAngleTurns
set_option linter.unusedVariables false
set_option linter.unusedSimpArgs false
open Go.RowKit Flo

/-- What both hand back: told by v. -/
def Post (v : Option Nat) (w : World) (e : Ending) (w' : World) : Prop := ∃ r, e = .returned (.float .f32 r) ∧ Rep .f32 v r ∧ ∃ n, w' = w.drewN n

theorem ended_up {b : Nat} (hend : endS b = false) : ar .sub .f64 (up (tell .f32 b)) (up (tell .f32 b)) = none := by
  unfold tell
  cases hn : nan .f32 b
  · have h1 := (not_nan_iff .f32 b).1 hn
    rcases Nat.lt_or_eq_of_le h1 with h2 | h2
    · rw [show endS b = true from decide_eq_true h2] at hend; cases hend
    · have e : up (if false = true then none else some b) = some (upw b) := rfl
      rw [e]
      exact sub_self_inf (by rw [upw_inf b h2, (word_sg .f64 _ _ (Nat.le_refl _)).2])
  · rfl

theorem over_zero : over (some 0) = false := by decide +kernel

theorem aw_y {v : Option Nat} {y x : Nat} (h : Rep .f64 v y) (hv : ar .sub .f64 v v = none) (w : World) : Calls Try.prog 102 #[.float .f64 y, .float .f64 x] w fun e w' => e = .returned (.float .f64 9221120237041090561) ∧ ∃ n, w' = w.drewN n := by
  go_enter Try.func102, Try.ntmps102
  go_wp2_with (first
    | (refine wpList_ar rfl _ _ _ _ _ rfl rfl _ _ _ rfl rfl h h ?_; intro r n hr; have g := neq_none (rep_to hr hv.symm))
    | (go_at_call 72; refine (nan_call _).mono ?_; rintro e w' ⟨rfl, rfl⟩))
  go_ret
  exact ⟨rfl, _, rfl⟩

theorem aw_x {v : Option Nat} {y x : Nat} (uy : Rep .f64 (some y) y) (hy : ar .sub .f64 (some y) (some y) = some 0) (h : Rep .f64 v x) (hv : ar .sub .f64 v v = none) (w : World) :
    Calls Try.prog 102 #[.float .f64 y, .float .f64 x] w fun e w' => e = .returned (.float .f64 9221120237041090561) ∧ ∃ n, w' = w.drewN n := by
  have HY := Lib.hid hy
  have h0 : ∀ w, ∃ r n, (binOp .sub 26 (.float .f64 x) (.float .f64 x)).run Try.prog w = .ok (.float .f64 r) (w.drewN n) ∧ Rep .f64 none r := fun w => by
    have := run_ar (P := Try.prog) w (op := .sub) rfl 26 h h
    rw [hv] at this
    exact this
  obtain ⟨rf, hrf⟩ := Classical.axiomOfChoice h0
  obtain ⟨nf, hnf⟩ := Classical.axiomOfChoice hrf
  have h1 := fun w => (hnf w).1
  have h2 : ∀ w, (FloatKind.f64.format.order (rf w) 0 != some .eq) = true := fun w => neq_none (hnf w).2
  have h00 := order_zero
  clear hnf hrf h0 hy hv
  go_enter Try.func102, Try.ntmps102
  go_wp2_with (first
    | (refine wpList_ar rfl _ _ _ _ _ rfl rfl _ _ _ rfl rfl uy uy ?_; intro r n hr; obtain rfl := (rep_to hr HY.out.symm).some)
    | (go_at_call 72; refine (nan_call _).mono ?_; rintro e w' ⟨rfl, rfl⟩))
  go_ret
  exact ⟨rfl, _, rfl⟩

theorem aw_zero {y x : Nat} (uy : Rep .f64 (some y) y) (hy : ar .sub .f64 (some y) (some y) = some 0) (hx : ar .sub .f64 (some x) (some x) = some 0)
    (zx : (FloatKind.f64.format.order x 0 == some .eq) = true) (zy : (FloatKind.f64.format.order y 0 == some .eq) = true) (w : World) :
    Calls Try.prog 102 #[.float .f64 y, .float .f64 x] w fun e w' => e = .returned (.float .f64 0) ∧ ∃ n, w' = w.drewN n := by
  have HY := Lib.hid hy
  have h1 := fun w => run_float_arith (P := Try.prog) w .sub 26 .f64 x x 0 hx
  have h00 := order_zero
  clear hy hx
  go_enter Try.func102, Try.ntmps102
  go_wp2_with (refine wpList_ar rfl _ _ _ _ _ rfl rfl _ _ _ rfl rfl uy uy ?_; intro r n hr; obtain rfl := (rep_to hr HY.out.symm).some)
  go_ret
  exact ⟨rfl, _, rfl⟩

set_option maxHeartbeats 1000000 in
theorem both {y x : Nat} (hy : Rep .f32 (tell .f32 y) y) (hx : Rep .f32 (tell .f32 x) x) : ∃ v, (∀ w, Calls Try.prog 44 #[.float .f32 y, .float .f32 x] w (Post v w)) ∧ ∀ w, Calls Try.prog 84 #[.float .f32 y, .float .f32 x] w (Post v w) := by
  cases ey : endS y
  · have hv := ended_up ey
    refine ⟨none, fun w => ?_, fun w => ?_⟩
    · cases ex : endS x
      all_goals
        go_enter Try.func44, Try.ntmps44
        go_wp2_with (first
          | (go_at_call 73; refine (finite_impl (by assumption) _).mono ?_; rintro e w' ⟨rfl, n, rfl⟩)
          | (go_at_call 72; refine (nan_call _).mono ?_; rintro e w' ⟨rfl, rfl⟩)
          | (refine wpList_down rfl _ _ _ rfl Try.underlying26 Try.underlying22 _ rfl rep_nan rfl ?_; intro r n hr))
        go_ret
        exact ⟨_, rfl, by assumption, _, rfl⟩
    · go_enter Try.func84, Try.ntmps84
      go_wp2_with (first
        | (refine wpList_up rfl _ _ _ rfl Try.underlying22 Try.underlying26 _ rfl hy ?_; intro r n hu)
        | (refine wpList_up rfl _ _ _ rfl Try.underlying22 Try.underlying26 _ rfl hx ?_; intro r n2 hu2)
        | (go_at_call 102; refine (aw_y hu hv _).mono ?_; rintro e w' ⟨rfl, n2, rfl⟩)
        | (go_at_call 93; refine (narrow_spec rep_nan rfl _).mono ?_; rintro e w' ⟨r3, rfl, hr3, n3, rfl⟩))
      go_ret
      exact ⟨_, rfl, by assumption, _, rfl⟩
  · have fy : rg .f32 y < FloatKind.f32.format.infRung := of_decide_eq_true (p := rg .f32 y < 2139095040) ey
    have uy := rep_upw fy
    have hcy := fun w => run_upw (P := Try.prog) 22 26 Try.underlying22 Try.underlying26 ((not_nan_iff .f32 y).2 (Nat.le_of_lt fy)) w
    have sy := Lib.hid (sub_self (fin_upw fy))
    cases ex : endS x
    · have hv := ended_up ex
      refine ⟨none, fun w => ?_, fun w => ?_⟩
      · go_enter Try.func44, Try.ntmps44
        go_wp2_with (first
          | (go_at_call 73; refine (finite_impl (by assumption) _).mono ?_; rintro e w' ⟨rfl, n, rfl⟩)
          | (go_at_call 72; refine (nan_call _).mono ?_; rintro e w' ⟨rfl, rfl⟩)
          | (refine wpList_down rfl _ _ _ rfl Try.underlying26 Try.underlying22 _ rfl rep_nan rfl ?_; intro r n hr))
        go_ret
        exact ⟨_, rfl, by assumption, _, rfl⟩
      · go_enter Try.func84, Try.ntmps84
        go_wp2_with (first
          | (refine wpList_up rfl _ _ _ rfl Try.underlying22 Try.underlying26 _ rfl hx ?_; intro r n2 hu2)
          | (go_at_call 102; refine (aw_x uy sy.out hu2 hv _).mono ?_; rintro e w' ⟨rfl, n2, rfl⟩)
          | (go_at_call 93; refine (narrow_spec rep_nan rfl _).mono ?_; rintro e w' ⟨r3, rfl, hr3, n3, rfl⟩))
        go_ret
        exact ⟨_, rfl, by assumption, _, rfl⟩
    · have fx : rg .f32 x < FloatKind.f32.format.infRung := of_decide_eq_true (p := rg .f32 x < 2139095040) ex
      have hcx := fun w => run_upw (P := Try.prog) 22 26 Try.underlying22 Try.underlying26 ((not_nan_iff .f32 x).2 (Nat.le_of_lt fx)) w
      by_cases hz : (FloatKind.f32.format.order x 0 == some .eq) = true ∧ (FloatKind.f32.format.order y 0 == some .eq) = true
      · obtain ⟨zx, zy⟩ := hz
        have z32 : Rep .f32 (some 0) 0 := rep_lit _ _ (by decide +kernel)
        have HZ := Lib.hid (fun w => aw_zero uy sy.out (sub_self (fin_upw fx)) (by rw [order0 ((not_nan_iff .f32 x).2 (Nat.le_of_lt fx))]; exact zx) (by rw [order0 ((not_nan_iff .f32 y).2 (Nat.le_of_lt fy))]; exact zy) w)
        refine ⟨some 0, fun w => ?_, fun w => ?_⟩
        · go_enter Try.func44, Try.ntmps44
          go_wp2_with (go_at_call 73; refine (finite_impl (by assumption) _).mono ?_; rintro e w' ⟨rfl, n, rfl⟩)
          go_ret
          exact ⟨_, rfl, z32, _, rfl⟩
        · have hd0 : down (some 0) = some 0 := by decide +kernel
          clear zx zy
          go_enter Try.func84, Try.ntmps84
          go_wp2_with (first
            | (go_at_call 102; refine (HZ.out _).mono ?_; rintro e w' ⟨rfl, n2, rfl⟩)
            | (go_at_call 93; refine (narrow_spec rep_z6 over_zero _).mono ?_; rintro e w' ⟨r3, rfl, hr3, n3, rfl⟩))
          go_ret
          rw [hd0] at hr3
          exact ⟨_, rfl, hr3, _, rfl⟩
      · have nz : (FloatKind.f32.format.order x 0 == some .eq) = false ∨ ((FloatKind.f32.format.order x 0 == some .eq) = true ∧ (FloatKind.f32.format.order y 0 == some .eq) = false) := by
          cases zx : (FloatKind.f32.format.order x 0 == some .eq)
          · exact .inl rfl
          · cases zy : (FloatKind.f32.format.order y 0 == some .eq)
            · exact .inr ⟨rfl, rfl⟩
            · exact absurd ⟨zx, zy⟩ hz
        have HC : AngC y x _ _ _ := ⟨hy, hx, fy, fx, nz, rfl, rfl, rfl⟩
        have HI := Lib.hid (fun w => ang_impl HC w)
        have HS := Lib.hid (fun w => ang_spec HC w)
        have HO := HC.over
        generalize (FloatKind.f64.format.order (absw (upw y)) (absw (upw x)) == some .gt) = o at *
        generalize (FloatKind.f32.format.order x 0 == some .lt) = xn at *
        generalize (FloatKind.f32.format.order y 0 == some .lt) = yn at *
        clear nz hz HC
        refine ⟨_, fun w => HI.out w, fun w => ?_⟩
        go_enter Try.func84, Try.ntmps84
        go_wp2_with (first
          | (go_at_call 102; refine (HS.out _).mono ?_; rintro e w' ⟨r2, rfl, hr2, n2, rfl⟩)
          | (go_at_call 93; refine (narrow_spec hr2 HO _).mono ?_; rintro e w' ⟨r3, rfl, hr3, n3, rfl⟩))
        go_ret
        exact ⟨_, rfl, by assumption, _, rfl⟩

theorem walk (a0 a1 : Nat) (w : World) (w0 : (Lit.float .f32 a0).wf = true) (w1 : (Lit.float .f32 a1).wf = true) :
    Calls Try.prog 14 #[.float .f32 a0, .float .f32 a1] w fun e w' => e = .returned (.bool true) ∧ Below w.heap.size w w' := by
  obtain ⟨v, hi, hs⟩ := both (rep_wf _ _ w0) (rep_wf _ _ w1)
  clear w0 w1
  have hs2 : ∀ w, Calls Try.prog 43 #[.float .f32 a0, .float .f32 a1] w (Post v w) := fun w => by
    go_enter Try.func43, Try.ntmps43
    go_wp2_with (go_at_call 84; refine (hs _).mono ?_; rintro e w' ⟨r, rfl, hr, n, rfl⟩)
    go_ret
    exact ⟨_, rfl, by assumption, _, rfl⟩
  go_enter Try.func14, Try.ntmps14
  go_wp2_with (first
    | (go_at_call 43; refine (hs2 _).mono ?_; rintro e w' ⟨r1, rfl, hr1, n1, rfl⟩)
    | (go_at_call 44; refine (hi _).mono ?_; rintro e w' ⟨r2, rfl, hr2, n2, rfl⟩)
    | (refine wpList_up rfl _ _ _ rfl Try.underlying22 Try.underlying26 _ rfl hr2 ?_; intro r3 n3 hu3)
    | (refine wpList_up rfl _ _ _ rfl Try.underlying22 Try.underlying26 _ rfl hr1 ?_; intro r4 n4 hu4)
    | (go_at_call 19; refine (same_any (by assumption) (by assumption) _).mono ?_; rintro e w' ⟨rfl, k, rfl⟩))
  go_ret
  exact ⟨rfl, below_drewN (Below.refl _ _) _⟩
end Go.Proofs.Ytpebdcimbdbbmaa.fnExactAngleTurns
