/-
  The phasor: the program's and the reference's functions at a number that is not too great; complex numbers part by part. Conditions: those that each theorem names.
-/
import Derived.Test.YtpebdcimbdbbmaaPh
import Derived.Laws.ComplexArith
namespace Go.Proofs.Ytpebdcimbdbbmaa
set_option linter.unusedVariables false
set_option linter.unusedSimpArgs false
open Go.RowKit Flo

theorem gtB_small {x a : Nat} (h : Bd .f64 (some x) a) (ha : a < 1126) : gtB x = false := by
  obtain ⟨b, e, hr, hm⟩ := h
  injection e with e
  subst e
  unfold gtB
  rw [← mgC_le, mgC_eq]
  have h1 := (Nat.pow_lt_pow_iff_right (show 1 < 2 by decide)).2 ha
  exact decide_eq_false (fun h2 => absurd (Nat.le_trans h2 hm) (by
    intro h3
    exact absurd (Nat.lt_of_lt_of_le h1 h3) (Nat.lt_irrefl _)))

theorem endB_of {x : Nat} (h : rg .f64 x < FloatKind.f64.format.infRung) : endB x = true := decide_eq_true h

/-- What is asked of a number of turns: its quarter, what is left, and a quarter less that. -/
structure PhC (x J S D : Nat) : Prop where
  rep : Rep .f64 (some x) x
  bd : Bd .f64 (some x) (52 + 1074)
  is : PhIs x J S
  d : ar .sub .f64 (some quart6) (some S) = some D
  repD : Rep .f64 (some D) D
  bdD : Bd .f64 (some D) 1075

theorem ph_c {x : Nat} (h : Rep .f64 (some x) x) (hb : Bd .f64 (some x) (52 + 1074)) : ∃ J S D, PhC x J S D := by
  obtain ⟨J, S, hP⟩ := ph_ex hb
  have h1 : Bd .f64 (ar .sub .f64 (some quart6) (some S)) 1075 := bd_sub (a := 1074) (show Bd .f64 (some quart6) 1074 from ⟨_, rfl, by decide +kernel, by decide +kernel⟩) hP.bd (show 1074 + 1 < 2098 by decide)
  obtain ⟨D, e, hr, hm⟩ := h1
  have hlt : D < 2 ^ 64 := by
    have : floatBits .sub .f64 quart6 S = some D := e
    exact floatBits_lt this
  exact ⟨J, S, D, h, hb, hP, e, rep_some hlt ((not_nan_iff .f64 D).2 (Nat.le_of_lt hr)), ⟨D, rfl, hr, hm⟩⟩

theorem PhC.bdS6 {x J S D : Nat} (h : PhC x J S D) : Bd .f64 (some S) (52 + 1074) := h.is.bd.mono (by decide)
theorem PhC.bdD6 {x J S D : Nat} (h : PhC x J S D) : Bd .f64 (some D) (52 + 1074) := h.bdD.mono (by decide)
theorem PhC.oc {x J S D : Nat} (h : PhC x J S D) : over (sinV D) = false := over_bd (sinV_bd h.bdD6) (by decide)
theorem PhC.os {x J S D : Nat} (h : PhC x J S D) : over (sinV S) = false := over_bd (sinV_bd h.bdS6) (by decide)
theorem PhC.onc {x J S D : Nat} (h : PhC x J S D) : over (ar .sub .f64 (some 0) (sinV D)) = false := over_bd (bd_sub (zero_bd _) (sinV_bd h.bdD6) (show 1168 + 1 < 2098 by decide)) (by decide)
theorem PhC.ons {x J S D : Nat} (h : PhC x J S D) : over (ar .sub .f64 (some 0) (sinV S)) = false := over_bd (bd_sub (zero_bd _) (sinV_bd h.bdS6) (show 1168 + 1 < 2098 by decide)) (by decide)
theorem PhC.fin {x J S D : Nat} (h : PhC x J S D) : rg .f64 x < FloatKind.f64.format.infRung := by
  obtain ⟨b, e, hr, _⟩ := h.bd
  injection e with e
  rw [e]; exact hr
theorem PhC.gt {x J S D : Nat} (h : PhC x J S D) (hg : gtB x = false) : gtB S = false ∧ gtB D = false := ⟨gtB_small h.is.bd (by decide), gtB_small h.bdD (by decide)⟩

theorem ph_test {x J S j r : Nat} (h : PhIs x J S) (hj : j < J) (hr : Rep .f64 (qF (frV x) j) r) : (FloatKind.f64.format.order r 4598175219545276416 == some .gt || FloatKind.f64.format.order r 4598175219545276416 == some .eq) = true := geq_isv hr rep_quart (h.up j hj)
theorem ph_stop {x J S r : Nat} (h : PhIs x J S) (hr : Rep .f64 (qF (frV x) J) r) : r = S ∧ (FloatKind.f64.format.order S 4598175219545276416 == some .gt || FloatKind.f64.format.order S 4598175219545276416 == some .eq) = false := by
  rw [h.is] at hr
  exact ⟨hr.some, geq_isv h.rep rep_quart h.fin⟩

/-- What both hand back: the parts told by v and u. -/
def CPost (v u : Option Nat) (w : World) (e : Ending) (w' : World) : Prop := ∃ a b, e = .returned (.complex .f32 a b) ∧ Rep .f32 v a ∧ Rep .f32 u b ∧ ∃ n, w' = w.drewN n

set_option maxHeartbeats 4000000 in
theorem ph_impl {x J S D : Nat} (h : PhC x J S D) (hg : gtB x = false) (w : World) : Calls Try.prog 41 #[.float .f64 x] w (CPost (down (rePh J (sinV D) (sinV S))) (down (imPh J (sinV D) (sinV S))) w) := by
  have c0 := rep_z6
  have c6 := rep_quart
  have hx := h.rep
  have hb := h.bd
  have he := endB_of h.fin
  have HP := Lib.hid h
  clear h
  go_enter Try.func41, Try.ntmps41
  go_wp2_with (first
    | (go_at_call 72; refine (nan_call _).mono ?_; rintro e w' ⟨rfl, rfl⟩)
    | (refine wpList_down rfl _ _ _ rfl Try.underlying26 Try.underlying22 _ rfl rep_nan rfl ?_; intro rn nn hrn)
    | (go_at_call 82; refine (ended_any hx _).mono ?_; rintro e w' ⟨rfl, rfl⟩)
    | (go_at_call 76; refine (great_any hx _).mono ?_; rintro e w' ⟨rfl, rfl⟩)
    | (go_at_call 83; refine (fr_impl hx hb _).mono ?_; rintro e w' ⟨r, rfl, hr, n, rfl⟩))
  clear hrn
  go_loopw [4, 5] (fun f q wr => ∃ (j n r : Nat), j ≤ J ∧ f = .float .f64 r ∧ q = .int .i64 (j : Int) ∧ wr = w.drewN n ∧ Rep .f64 (qF (frV x) j) r) (fun _ q _ => (J - intOf q).toNat)
  case atStart => exact ⟨0, _, _, Nat.zero_le _, rfl, rfl, rfl, hr⟩
  case round =>
    clear hr
    obtain ⟨j, n, r, hj, rfl, rfl, rfl, hr⟩ := hrel
    have hj4 := HP.out.is.le
    by_cases hlt : j < J
    · have g := ph_test HP.out.is hlt hr
      go_wp2_with (refine wpList_ar rfl _ _ _ _ _ rfl rfl _ _ _ rfl rfl hr c6 ?_; intro r2 n2 hr2)
      go_roundw
      case rel => exact ⟨j + 1, _, _, by omega, rfl, by go_num, rfl, hr2⟩
      case measure => simp [intOf]; omega
    · obtain rfl : j = J := by omega
      obtain ⟨e, g⟩ := ph_stop HP.out.is hr
      subst e
      have RD := HP.out.repD
      have RS := HP.out.is.rep
      have BD := HP.out.bdD6
      have BS := HP.out.bdS6
      have o1 := HP.out.oc
      have o2 := HP.out.os
      have o3 := HP.out.onc
      have o4 := HP.out.ons
      have HD := Lib.hid HP.out.d
      clear hr hlt hx hb he hg hj
      obtain rfl | rfl | rfl | rfl | rfl : j = 0 ∨ j = 1 ∨ j = 2 ∨ j = 3 ∨ j = 4 := by omega
      all_goals
        clear hj4
        go_wp2_with (first
          | (go_at_call 77; refine (sine_impl (by assumption) (by assumption) _).mono ?_; rintro e w' ⟨r2, rfl, hr2, n2, rfl⟩)
          | (refine wpList_down rfl _ _ _ rfl Try.underlying26 Try.underlying22 _ rfl (by assumption) (by assumption) ?_; intro r3 n3 hr3)
          | (refine wpList_ar rfl _ _ _ _ _ rfl rfl _ _ _ rfl rfl c6 RS ?_; intro rd nd hrd; obtain rfl := (rep_to hrd HD.out.symm).some)
          | (refine wpList_ar rfl _ _ _ _ _ rfl rfl _ _ _ rfl rfl c0 (by assumption) ?_; intro r5 n5 hr5))
        go_ret
        exact ⟨_, _, rfl, by assumption, by assumption, _, rfl⟩
end Go.Proofs.Ytpebdcimbdbbmaa
