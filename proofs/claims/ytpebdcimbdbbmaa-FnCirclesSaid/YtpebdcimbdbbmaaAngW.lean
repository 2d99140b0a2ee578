/-
  The angle: the program's function at finite numbers that are not both zero. Conditions: those that each theorem names.
-/
import Derived.Test.YtpebdcimbdbbmaaAng
import Derived.Test.YtpebdcimbdbbmaaGreat
namespace Go.Proofs.Ytpebdcimbdbbmaa
set_option linter.unusedVariables false
set_option linter.unusedSimpArgs false
open Go.RowKit Flo

/-- What is told of two finite numbers, y and x, that are not both zero. -/
structure AngC (y x : Nat) (o xn yn : Bool) : Prop where
  ry : Rep .f32 (tell .f32 y) y
  rx : Rep .f32 (tell .f32 x) x
  fy : rg .f32 y < FloatKind.f32.format.infRung
  fx : rg .f32 x < FloatKind.f32.format.infRung
  nz : (FloatKind.f32.format.order x 0 == some .eq) = false ∨ ((FloatKind.f32.format.order x 0 == some .eq) = true ∧ (FloatKind.f32.format.order y 0 == some .eq) = false)
  ov : (FloatKind.f64.format.order (absw (upw y)) (absw (upw x)) == some .gt) = o
  xn : (FloatKind.f32.format.order x 0 == some .lt) = xn
  yn : (FloatKind.f32.format.order y 0 == some .lt) = yn

theorem rep_absw {b : Nat} (h : rg .f32 b < FloatKind.f32.format.infRung) : Rep .f64 (some (absw (upw b))) (absw (upw b)) :=
  rep_some (absw_lt _) (by rw [absw_nan]; exact upw_nan ((not_nan_iff .f32 b).2 (Nat.le_of_lt h)))
theorem rep_upw {b : Nat} (h : rg .f32 b < FloatKind.f32.format.infRung) : Rep .f64 (some (upw b)) (upw b) :=
  rep_some (upw_lt b) (upw_nan ((not_nan_iff .f32 b).2 (Nat.le_of_lt h)))
theorem fin_upw {b : Nat} (h : rg .f32 b < FloatKind.f32.format.infRung) : rg .f64 (upw b) < FloatKind.f64.format.infRung := by
  obtain ⟨q, eq, hq, _⟩ := upw_fin b h
  rw [eq, (word_sg .f64 _ _ (Nat.le_of_lt hq)).2]
  exact hq
theorem rep_eight : Rep .f64 (some 4620693217682128896) 4620693217682128896 := rep_lit _ _ (by decide +kernel)
theorem fe_15 : fe (15 - 2 * ((0 : Nat) : Int)) = 4624633867356078080 := by decide +kernel

/-- A finite float32 whose magnitude is zero is equal to zero. -/
theorem mg_zero32 {b : Nat} (h : rg .f32 b < FloatKind.f32.format.infRung) (hz : mg FloatKind.f64.format.binade (rg .f64 (upw b)) = 0) : (FloatKind.f32.format.order b 0 == some .eq) = true := by
  have hn := (not_nan_iff .f32 b).2 (Nat.le_of_lt h)
  rw [← order0 hn, order_sv .f64 _ 0 (upw_nan hn) (by decide +kernel), show sv .f64 0 = 0 by decide +kernel]
  have : sv .f64 (upw b) = 0 := by
    unfold sv
    rw [hz]
    cases sg .f64 (upw b) <;> rfl
  rw [this]
  rfl

theorem AngC.nn {y x : Nat} {o xn yn : Bool} (h : AngC y x o xn yn) : Nn .f64 (qA o (absw (upw y)) (absw (upw x))) 1075 := by
  have ay := fin_upw h.fy
  have ax := fin_upw h.fx
  have hy := absw_rg (upw y)
  have hx := absw_rg (upw x)
  have ho := h.ov
  have ny : nan .f64 (absw (upw y)) = false := (rep_absw h.fy).2.2
  have nx : nan .f64 (absw (upw x)) = false := (rep_absw h.fx).2.2
  rw [order_sv .f64 _ _ ny nx, absw_sv, absw_sv, cmp_int] at ho
  cases o
  · have hle : mg FloatKind.f64.format.binade (rg .f64 (upw y)) ≤ mg FloatKind.f64.format.binade (rg .f64 (upw x)) := by
      rcases Nat.lt_or_ge (mg FloatKind.f64.format.binade (rg .f64 (upw x))) (mg FloatKind.f64.format.binade (rg .f64 (upw y))) with h1 | h1
      · exfalso
        rw [if_neg (by omega), if_neg (by omega)] at ho
        cases ho
      · exact h1
    refine quo_two (absw_sg _) (absw_sg _) (by rw [hy]; exact ay) (by rw [hx]; exact ax) (by rw [hy, hx]; exact hle) ?_
    rw [hx]
    rcases Nat.eq_zero_or_pos (mg FloatKind.f64.format.binade (rg .f64 (upw x))) with h0 | h0
    · exfalso
      have z1 := mg_zero32 h.fx h0
      have z2 := mg_zero32 h.fy (by omega)
      rcases h.nz with h3 | ⟨_, h3⟩
      · rw [z1] at h3; cases h3
      · rw [z2] at h3; cases h3
    · exact h0
  · have hlt : mg FloatKind.f64.format.binade (rg .f64 (upw x)) < mg FloatKind.f64.format.binade (rg .f64 (upw y)) := by
      rcases Nat.lt_or_ge (mg FloatKind.f64.format.binade (rg .f64 (upw x))) (mg FloatKind.f64.format.binade (rg .f64 (upw y))) with h1 | h1
      · exact h1
      · exfalso
        by_cases h2 : (mg FloatKind.f64.format.binade (rg .f64 (upw y)) : Int) < mg FloatKind.f64.format.binade (rg .f64 (upw x))
        · rw [if_pos h2] at ho; cases ho
        · rw [if_neg h2, if_pos (by omega)] at ho; cases ho
    exact quo_two (absw_sg _) (absw_sg _) (by rw [hx]; exact ax) (by rw [hy]; exact ay) (by rw [hy, hx]; omega) (by rw [hy]; omega)
theorem AngC.over {y x : Nat} {o xn yn : Bool} (h : AngC y x o xn yn) : over (angV (absw (upw y)) (absw (upw x)) o xn yn) = false := over_bd (angV_bd xn yn h.nn) (by decide)
theorem AngC.endY {y x : Nat} {o xn yn : Bool} (h : AngC y x o xn yn) : endS y = true := decide_eq_true h.fy
theorem AngC.endX {y x : Nat} {o xn yn : Bool} (h : AngC y x o xn yn) : endS x = true := decide_eq_true h.fx

set_option maxHeartbeats 16000000 in
theorem ang_impl_f {y x : Nat} {xn yn : Bool} (h : AngC y x false xn yn) (w : World) : Calls Try.prog 44 #[.float .f32 y, .float .f32 x] w fun e w' => ∃ r, e = .returned (.float .f32 r) ∧ Rep .f32 (down (angV (absw (upw y)) (absw (upw x)) false xn yn)) r ∧ ∃ n, w' = w.drewN n := by
  have hV := h.over
  have hry := h.ry
  have hrx := h.rx
  have ey := h.endY
  have ex := h.endX
  have hneg := run_neg6
  have c1 := rep_one
  have c2 := rep_two
  have c5 := rep_half
  have c6 := rep_quart
  have c7 := rep_turn
  have c8 := rep_eight
  have c0 := rep_z6
  have uy := rep_upw h.fy
  have ux := rep_upw h.fx
  have ay := rep_absw h.fy
  have ax := rep_absw h.fx
  have hcy := fun w => run_upw (P := Try.prog) 22 26 Try.underlying22 Try.underlying26 ((not_nan_iff .f32 y).2 (Nat.le_of_lt h.fy)) w
  have hcx := fun w => run_upw (P := Try.prog) 22 26 Try.underlying22 Try.underlying26 ((not_nan_iff .f32 x).2 (Nat.le_of_lt h.fx)) w
  have hov := h.ov
  have hxn := h.xn
  have hyn := h.yn
  have hnz := h.nz
  clear h
  rcases hnz with hz | ⟨hz1, hz2⟩
  all_goals
    go_enter Try.func44, Try.ntmps44
    go_wp2_with (first
      | (go_at_call 73; refine (finite_impl (by assumption) _).mono ?_; rintro e w' ⟨rfl, n, rfl⟩)
      | (go_at_call 85; refine (abs_any (by assumption) _).mono ?_; rintro e w' ⟨rfl, rfl⟩)
      | (refine wpList_ar rfl _ _ _ _ _ rfl rfl _ _ _ rfl rfl (by assumption) (by assumption) ?_; intro r n hr))
    go_loopw [7, 45] (fun t i wr => ∃ (k q r : Nat), k ≤ 3 ∧ t = .float .f64 r ∧ i = .int .i64 (k : Int) ∧ wr = w.drewN q ∧ Rep .f64 (tA (qA false (absw (upw y)) (absw (upw x))) k) r) (fun _ i _ => (3 - intOf i).toNat)
    case atStart => exact ⟨0, _, _, Nat.zero_le _, rfl, rfl, rfl, hr⟩
    case round =>
      clear hr
      obtain ⟨k, q, s, hk, rfl, rfl, rfl, ht⟩ := hrel
      by_cases hlt : k < 3
      · go_wp2_with (first
          | (go_at_call 70; refine (sqrt_any (by assumption) _).mono ?_; rintro e w' ⟨r2, rfl, hr2, n2, rfl⟩)
          | (refine wpList_ar rfl _ _ _ _ _ rfl rfl _ _ _ rfl rfl (by assumption) (by assumption) ?_; intro r n hr))
        go_roundw
        case rel => exact ⟨k + 1, _, _, by omega, rfl, by go_num, rfl, hr⟩
        case measure => simp [intOf]; omega
      · obtain rfl : k = 3 := by omega
        clear hlt
        go_wp2_with (refine wpList_ar rfl _ _ _ _ _ rfl rfl _ _ _ rfl rfl ht ht ?_; intro u n hu)
        have hfe := fe_15
        go_loopw [9, 10] (fun i o wr => ∃ (t q s : Nat), t ≤ 8 ∧ i = .float .f64 s ∧ o = .float .f64 (fe (15 - 2 * (t : Int))) ∧ wr = w.drewN q ∧ Rep .f64 (pA (ar .mul .f64 (tA (qA false (absw (upw y)) (absw (upw x))) 3) (tA (qA false (absw (upw y)) (absw (upw x))) 3)) t) s) (fun _ o _ => (eOf o + 200).toNat)
        case atStart => exact ⟨0, _, 0, Nat.zero_le _, rfl, by rw [fe_15], rfl, c0⟩
        case round =>
          clear hfe
          obtain ⟨t, q2, p, ht8, rfl, rfl, rfl, hp⟩ := hrel
          have hk := fe_rep (15 - 2 * (t : Int))
          by_cases hlt : t < 8
          · have g1 := geq_is hk c1 ((fe_odd t (by omega)).trans (decide_eq_true hlt))
            go_wp2_with (refine wpList_ar rfl _ _ _ _ _ rfl rfl _ _ _ rfl rfl (by assumption) (by assumption) ?_; intro r n hr)
            rename_i r4 n4 hr4
            obtain rfl := fe_is hr (fe_odd2 t hlt)
            have e1 := eOf_fe (15 - 2 * ((t + 1 : Nat) : Int)) (by omega) (by omega)
            have e2 := eOf_fe (15 - 2 * (t : Int)) (by omega) (by omega)
            go_roundw
            case rel => exact ⟨t + 1, _, _, by omega, rfl, rfl, rfl, hr4⟩
            case measure => rw [e1, e2]; omega
          · have g1 := geq_is hk c1 ((fe_odd t (by omega)).trans (decide_eq_false hlt))
            obtain rfl : t = 8 := by omega
            clear hlt hu
            cases xn <;> cases yn
            all_goals
              go_wp2_with (first
                | (refine wpList_down rfl _ _ _ rfl Try.underlying26 Try.underlying22 _ rfl (by first | exact hr | exact rep_neg hr) hV ?_; intro r3 n3 hr3)
                | (refine wpList_ar rfl _ _ _ _ _ rfl rfl _ _ _ rfl rfl (by assumption) (by assumption) ?_; intro r n hr))
              go_ret
              exact ⟨_, rfl, hr3, _, rfl⟩

set_option maxHeartbeats 16000000 in
theorem ang_impl_t {y x : Nat} {xn yn : Bool} (h : AngC y x true xn yn) (w : World) : Calls Try.prog 44 #[.float .f32 y, .float .f32 x] w fun e w' => ∃ r, e = .returned (.float .f32 r) ∧ Rep .f32 (down (angV (absw (upw y)) (absw (upw x)) true xn yn)) r ∧ ∃ n, w' = w.drewN n := by
  have hV := h.over
  have hry := h.ry
  have hrx := h.rx
  have ey := h.endY
  have ex := h.endX
  have hneg := run_neg6
  have c1 := rep_one
  have c2 := rep_two
  have c5 := rep_half
  have c6 := rep_quart
  have c7 := rep_turn
  have c8 := rep_eight
  have c0 := rep_z6
  have uy := rep_upw h.fy
  have ux := rep_upw h.fx
  have ay := rep_absw h.fy
  have ax := rep_absw h.fx
  have hcy := fun w => run_upw (P := Try.prog) 22 26 Try.underlying22 Try.underlying26 ((not_nan_iff .f32 y).2 (Nat.le_of_lt h.fy)) w
  have hcx := fun w => run_upw (P := Try.prog) 22 26 Try.underlying22 Try.underlying26 ((not_nan_iff .f32 x).2 (Nat.le_of_lt h.fx)) w
  have hov := h.ov
  have hxn := h.xn
  have hyn := h.yn
  have hnz := h.nz
  clear h
  rcases hnz with hz | ⟨hz1, hz2⟩
  all_goals
    go_enter Try.func44, Try.ntmps44
    go_wp2_with (first
      | (go_at_call 73; refine (finite_impl (by assumption) _).mono ?_; rintro e w' ⟨rfl, n, rfl⟩)
      | (go_at_call 85; refine (abs_any (by assumption) _).mono ?_; rintro e w' ⟨rfl, rfl⟩)
      | (refine wpList_ar rfl _ _ _ _ _ rfl rfl _ _ _ rfl rfl (by assumption) (by assumption) ?_; intro r n hr))
    go_loopw [7, 45] (fun t i wr => ∃ (k q r : Nat), k ≤ 3 ∧ t = .float .f64 r ∧ i = .int .i64 (k : Int) ∧ wr = w.drewN q ∧ Rep .f64 (tA (qA true (absw (upw y)) (absw (upw x))) k) r) (fun _ i _ => (3 - intOf i).toNat)
    case atStart => exact ⟨0, _, _, Nat.zero_le _, rfl, rfl, rfl, hr⟩
    case round =>
      clear hr
      obtain ⟨k, q, s, hk, rfl, rfl, rfl, ht⟩ := hrel
      by_cases hlt : k < 3
      · go_wp2_with (first
          | (go_at_call 70; refine (sqrt_any (by assumption) _).mono ?_; rintro e w' ⟨r2, rfl, hr2, n2, rfl⟩)
          | (refine wpList_ar rfl _ _ _ _ _ rfl rfl _ _ _ rfl rfl (by assumption) (by assumption) ?_; intro r n hr))
        go_roundw
        case rel => exact ⟨k + 1, _, _, by omega, rfl, by go_num, rfl, hr⟩
        case measure => simp [intOf]; omega
      · obtain rfl : k = 3 := by omega
        clear hlt
        go_wp2_with (refine wpList_ar rfl _ _ _ _ _ rfl rfl _ _ _ rfl rfl ht ht ?_; intro u n hu)
        have hfe := fe_15
        go_loopw [9, 10] (fun i o wr => ∃ (t q s : Nat), t ≤ 8 ∧ i = .float .f64 s ∧ o = .float .f64 (fe (15 - 2 * (t : Int))) ∧ wr = w.drewN q ∧ Rep .f64 (pA (ar .mul .f64 (tA (qA true (absw (upw y)) (absw (upw x))) 3) (tA (qA true (absw (upw y)) (absw (upw x))) 3)) t) s) (fun _ o _ => (eOf o + 200).toNat)
        case atStart => exact ⟨0, _, 0, Nat.zero_le _, rfl, by rw [fe_15], rfl, c0⟩
        case round =>
          clear hfe
          obtain ⟨t, q2, p, ht8, rfl, rfl, rfl, hp⟩ := hrel
          have hk := fe_rep (15 - 2 * (t : Int))
          by_cases hlt : t < 8
          · have g1 := geq_is hk c1 ((fe_odd t (by omega)).trans (decide_eq_true hlt))
            go_wp2_with (refine wpList_ar rfl _ _ _ _ _ rfl rfl _ _ _ rfl rfl (by assumption) (by assumption) ?_; intro r n hr)
            rename_i r4 n4 hr4
            obtain rfl := fe_is hr (fe_odd2 t hlt)
            have e1 := eOf_fe (15 - 2 * ((t + 1 : Nat) : Int)) (by omega) (by omega)
            have e2 := eOf_fe (15 - 2 * (t : Int)) (by omega) (by omega)
            go_roundw
            case rel => exact ⟨t + 1, _, _, by omega, rfl, rfl, rfl, hr4⟩
            case measure => rw [e1, e2]; omega
          · have g1 := geq_is hk c1 ((fe_odd t (by omega)).trans (decide_eq_false hlt))
            obtain rfl : t = 8 := by omega
            clear hlt hu
            cases xn <;> cases yn
            all_goals
              go_wp2_with (first
                | (refine wpList_down rfl _ _ _ rfl Try.underlying26 Try.underlying22 _ rfl (by first | exact hr | exact rep_neg hr) hV ?_; intro r3 n3 hr3)
                | (refine wpList_ar rfl _ _ _ _ _ rfl rfl _ _ _ rfl rfl (by assumption) (by assumption) ?_; intro r n hr))
              go_ret
              exact ⟨_, rfl, hr3, _, rfl⟩

theorem ang_impl {y x : Nat} {o xn yn : Bool} (h : AngC y x o xn yn) (w : World) : Calls Try.prog 44 #[.float .f32 y, .float .f32 x] w fun e w' => ∃ r, e = .returned (.float .f32 r) ∧ Rep .f32 (down (angV (absw (upw y)) (absw (upw x)) o xn yn)) r ∧ ∃ n, w' = w.drewN n := by
  cases o
  · exact ang_impl_f h w
  · exact ang_impl_t h w
end Go.Proofs.Ytpebdcimbdbbmaa
