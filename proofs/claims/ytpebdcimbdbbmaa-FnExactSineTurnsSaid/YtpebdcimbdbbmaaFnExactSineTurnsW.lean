/-
  The walk of the law on SineTurns: it returns true. Conditions: the argument is a float.
-/
import Derived.Test.YtpebdcimbdbbmaaGreat
import Derived.WalkSmall
namespace Go.Proofs.Ytpebdcimbdbbmaa.fnExactSineTurns
open Go.RowKit Flo

/-- What both hand back: told by v. -/
def Post (v : Option Nat) (w : World) (e : Ending) (w' : World) : Prop := ∃ r, e = .returned (.float .f32 r) ∧ Rep .f32 v r ∧ ∃ n, w' = w.drewN n

theorem ended_up {b : Nat} (h : Rep .f32 (tell .f32 b) b) (hend : endS b = false) : ar .sub .f64 (up (tell .f32 b)) (up (tell .f32 b)) = none := by
  unfold tell
  cases hn : nan .f32 b
  · have h1 := (not_nan_iff .f32 b).1 hn
    rcases Nat.lt_or_eq_of_le h1 with h2 | h2
    · rw [show endS b = true from decide_eq_true h2] at hend; cases hend
    · have e : up (if false = true then none else some b) = some (upw b) := rfl
      rw [e]
      exact sub_self_inf (by rw [upw_inf b h2, (word_sg .f64 _ _ (Nat.le_refl _)).2])
  · rfl

theorem over_zero : over (some 0) = false := by decide +kernel

set_option maxHeartbeats 1000000 in
theorem both {b : Nat} (h : Rep .f32 (tell .f32 b) b) : ∃ v, (∀ w, Calls Try.prog 37 #[.float .f32 b] w (Post v w)) ∧ ∀ w, Calls Try.prog 75 #[.float .f32 b] w (Post v w) := by
  cases hend : endS b
  · have hv := ended_up h hend
    refine ⟨none, fun w => ?_, fun w => ?_⟩
    · go_enter Try.func37, Try.ntmps37
      go_wp2_with (first
        | (go_at_call 73; refine (finite_impl h _).mono ?_; rintro e w' ⟨rfl, n, rfl⟩)
        | (go_at_call 72; refine (nan_call _).mono ?_; rintro e w' ⟨rfl, rfl⟩)
        | (refine wpList_down rfl _ _ _ rfl Try.underlying26 Try.underlying22 _ rfl rep_nan rfl ?_; intro r n hr))
      go_ret
      exact ⟨_, rfl, by assumption, _, rfl⟩
    · go_enter Try.func75, Try.ntmps75
      go_wp2_with (first
        | (refine wpList_up rfl _ _ _ rfl Try.underlying22 Try.underlying26 _ rfl h ?_; intro r n hu)
        | (go_at_call 97; refine (sw_end hu hv _).mono ?_; rintro e w' ⟨rfl, n2, rfl⟩)
        | (go_at_call 93; refine (narrow_spec rep_nan rfl _).mono ?_; rintro e w' ⟨r3, rfl, hr3, n3, rfl⟩))
      go_ret
      exact ⟨_, rfl, by assumption, _, rfl⟩
  · have hr0 : rg .f32 b < FloatKind.f32.format.infRung := of_decide_eq_true (p := rg .f32 b < 2139095040) hend
    have hn := (not_nan_iff .f32 b).2 (Nat.le_of_lt hr0)
    have hru : Rep .f64 (some (upw b)) (upw b) := rep_some (upw_lt b) (upw_nan hn)
    have hc := fun w => run_upw (P := Try.prog) 22 26 Try.underlying22 Try.underlying26 hn w
    have hri : rg .f64 (upw b) < FloatKind.f64.format.infRung := by
      obtain ⟨q, eq, hq, _⟩ := upw_fin b hr0
      rw [eq, (word_sg .f64 _ _ (Nat.le_of_lt hq)).2]
      exact hq
    cases hg : gtB (upw b)
    · have hbd := small_bd hg
      have hsb := over_bd (sinV_bd hbd) (by decide)
      have s1 := small_hi (upw_nan hn) hg
      have s2 := small_lo (upw_nan hn) hg
      have HS := Lib.hid (fun w => sine_spec hru hbd s1 s2 w)
      clear s1 s2
      refine ⟨down (sinV (upw b)), fun w => ?_, fun w => ?_⟩
      · go_enter Try.func37, Try.ntmps37
        go_wp2_with (first
          | (go_at_call 73; refine (finite_impl h _).mono ?_; rintro e w' ⟨rfl, n, rfl⟩)
          | (go_at_call 76; refine (great_any hru _).mono ?_; rintro e w' ⟨rfl, rfl⟩)
          | (go_at_call 77; refine (sine_impl hru hbd _).mono ?_; rintro e w' ⟨r2, rfl, hr2, n2, rfl⟩)
          | (refine wpList_down rfl _ _ _ rfl Try.underlying26 Try.underlying22 _ rfl hr2 hsb ?_; intro r3 n3 hr3))
        go_ret
        exact ⟨_, rfl, by assumption, _, rfl⟩
      · go_enter Try.func75, Try.ntmps75
        go_wp2_with (first
          | (go_at_call 97; refine (HS.out _).mono ?_; rintro e w' ⟨r2, rfl, hr2, n2, rfl⟩)
          | (go_at_call 93; refine (narrow_spec hr2 hsb _).mono ?_; rintro e w' ⟨r3, rfl, hr3, n3, rfl⟩))
        go_ret
        exact ⟨_, rfl, by assumption, _, rfl⟩
    · have HS := Lib.hid (fun w => sw_great hru hri hg w)
      have z32 : Rep .f32 (some 0) 0 := rep_lit _ _ (by decide +kernel)
      refine ⟨some 0, fun w => ?_, fun w => ?_⟩
      · go_enter Try.func37, Try.ntmps37
        go_wp2_with (first
          | (go_at_call 73; refine (finite_impl h _).mono ?_; rintro e w' ⟨rfl, n, rfl⟩)
          | (go_at_call 76; refine (great_any hru _).mono ?_; rintro e w' ⟨rfl, rfl⟩))
        go_ret
        exact ⟨_, rfl, z32, _, rfl⟩
      · have hd0 : down (some 0) = some 0 := by decide +kernel
        go_enter Try.func75, Try.ntmps75
        go_wp2_with (first
          | (go_at_call 97; refine (HS.out _).mono ?_; rintro e w' ⟨rfl, n2, rfl⟩)
          | (go_at_call 93; refine (narrow_spec rep_z6 over_zero _).mono ?_; rintro e w' ⟨r3, rfl, hr3, n3, rfl⟩))
        go_ret
        rw [hd0] at hr3
        exact ⟨_, rfl, hr3, _, rfl⟩

theorem walk (a0 : Nat) (w : World) (w0 : (Lit.float .f32 a0).wf = true) :
    Calls Try.prog 11 #[.float .f32 a0] w fun e w' => e = .returned (.bool true) ∧ Below w.heap.size w w' := by
  obtain ⟨v, hi, hs⟩ := both (rep_wf _ _ w0)
  clear w0
  have hs2 : ∀ w, Calls Try.prog 36 #[.float .f32 a0] w (Post v w) := fun w => by
    go_enter Try.func36, Try.ntmps36
    go_wp2_with (go_at_call 75; refine (hs _).mono ?_; rintro e w' ⟨r, rfl, hr, n, rfl⟩)
    go_ret
    exact ⟨_, rfl, by assumption, _, rfl⟩
  go_enter Try.func11, Try.ntmps11
  go_wp2_with (first
    | (go_at_call 36; refine (hs2 _).mono ?_; rintro e w' ⟨r1, rfl, hr1, n1, rfl⟩)
    | (go_at_call 37; refine (hi _).mono ?_; rintro e w' ⟨r2, rfl, hr2, n2, rfl⟩)
    | (refine wpList_up rfl _ _ _ rfl Try.underlying22 Try.underlying26 _ rfl hr2 ?_; intro r3 n3 hu3)
    | (refine wpList_up rfl _ _ _ rfl Try.underlying22 Try.underlying26 _ rfl hr1 ?_; intro r4 n4 hu4)
    | (go_at_call 19; refine (same_any (by assumption) (by assumption) _).mono ?_; rintro e w' ⟨rfl, k, rfl⟩))
  go_ret
  exact ⟨rfl, below_drewN (Below.refl _ _) _⟩
end Go.Proofs.Ytpebdcimbdbbmaa.fnExactSineTurns
