/-
  The logarithm: the reference's and the program's functions give one told number. Conditions: a positive finite number.
-/
import Derived.Test.YtpebdcimbdbbmaaLog
import Derived.Laws.FloatArith
namespace Go.Proofs.Ytpebdcimbdbbmaa
open Go.RowKit Flo

/-- The whole number that a float is. -/
def eOf (v : Value) : Int := match v with
  | .float _ n => (floatToIntVal .f64 n .i64).getD 0
  | _ => 0
theorem eOf_fe : ∀ n : Int, -200 ≤ n → n ≤ 200 → eOf (.float .f64 (fe n)) = n := by
  have h : ∀ t : Nat, t < 401 → floatToIntVal .f64 (fe ((t : Int) - 200)) .i64 = some ((t : Int) - 200) := by decide +kernel
  intro n h0 h1
  have := h (n + 200).toNat (by omega)
  rw [show (((n + 200).toNat : Nat) : Int) - 200 = n by omega] at this
  show (floatToIntVal .f64 (fe n) .i64).getD 0 = n
  rw [this]; rfl

theorem rep_one : Rep .f64 (some 4607182418800017408) 4607182418800017408 := rep_lit _ _ (by decide +kernel)
theorem rep_two : Rep .f64 (some 4611686018427387904) 4611686018427387904 := rep_lit _ _ (by decide +kernel)
theorem rep_hi : Rep .f64 (some 4609434218613702656) 4609434218613702656 := rep_lit _ _ (by decide +kernel)
theorem rep_lo : Rep .f64 (some 4604930618986332160) 4604930618986332160 := rep_lit _ _ (by decide +kernel)
theorem rep_ln : Rep .f64 (some 4604418534313441775) 4604418534313441775 := rep_lit _ _ (by decide +kernel)
theorem rep_z6 : Rep .f64 (some 0) 0 := rep_lit _ _ (by decide +kernel)

/-- What stands in the first loop. -/
structure L1 (b j : Nat) (x : Nat) : Prop where
  rep : Rep .f64 (some x) x
  isx : hv (some b) j = some x
  ps : Ps .f64 (some x) 925 (1202 - j)
  le : j ≤ 129
  up : ∀ t, t < j → cm .geq .f64 (hv (some b) t) (some hi6) = true
theorem L1.zero {b : Nat} (hb : Rep .f64 (some b) b) (h : Ps .f64 (some b) 925 1202) : L1 b 0 b := ⟨hb, rfl, h, Nat.zero_le _, fun _ h => absurd h (by omega)⟩
theorem L1.next {b j x r : Nat} (h : L1 b j x) (hc : cm .geq .f64 (some x) (some hi6) = true) (hr : Rep .f64 (ar .quo .f64 (some x) (some two6)) r) : L1 b (j + 1) r ∧ j < 129 := by
  obtain ⟨h1, h2⟩ := half_ps h.ps (by omega) hc
  obtain ⟨y, e, s, g, l, u⟩ := h2
  rw [e] at hr
  have := hr.some
  subst this
  refine ⟨⟨hr, ?_, ⟨r, rfl, s, g, l, by rw [show 1202 - (j + 1) = 1202 - j - 1 by omega]; exact u⟩, by omega, fun t ht => ?_⟩, by omega⟩
  · show ar .quo .f64 (hv (some b) j) (some two6) = some r
    rw [h.isx, e]
  · by_cases htj : t = j
    · subst htj; rw [h.isx]; exact hc
    · exact h.up t (by omega)

theorem geq_is {x c : Nat} {t : Bool} (hx : Rep .f64 (some x) x) (hc : Rep .f64 (some c) c) (h : cm .geq .f64 (some x) (some c) = t) : (FloatKind.f64.format.order x c == some .gt || FloatKind.f64.format.order x c == some .eq) = t := by
  rw [ord_of hx hc]
  exact h
theorem lss_is {x c : Nat} {t : Bool} (hx : Rep .f64 (some x) x) (hc : Rep .f64 (some c) c) (h : cm .lss .f64 (some x) (some c) = t) : (FloatKind.f64.format.order x c == some .lt) = t := by
  rw [ord_of hx hc]
  exact h

/-- What stands in the second loop. -/
structure L2 (b j i : Nat) (x : Nat) : Prop where
  rep : Rep .f64 (some x) x
  isx : dv (hv (some b) j) i = some x
  ps : Ps .f64 (some x) (925 + i) 1075
  le : i ≤ 150
  lej : j ≤ 129
  up : ∀ t, t < j → cm .geq .f64 (hv (some b) t) (some hi6) = true
  upEnd : cm .geq .f64 (hv (some b) j) (some hi6) = false
  down : ∀ t, t < i → cm .lss .f64 (dv (hv (some b) j) t) (some lo6) = true
theorem L2.zero {b j x : Nat} (h : L1 b j x) (hc : cm .geq .f64 (some x) (some hi6) = false) : L2 b j 0 x :=
  ⟨h.rep, h.isx, hi_ps h.ps hc, Nat.zero_le _, h.le, h.up, by rw [h.isx]; exact hc, fun _ h => absurd h (by omega)⟩
theorem L2.next {b j i x r : Nat} (h : L2 b j i x) (hc : cm .lss .f64 (some x) (some lo6) = true) (hr : Rep .f64 (ar .mul .f64 (some x) (some two6)) r) : L2 b j (i + 1) r ∧ i < 149 := by
  obtain ⟨h1, h2⟩ := dbl_ps h.ps (by decide) hc
  obtain ⟨y, e, s, g, l, u⟩ := h2
  rw [e] at hr
  have := hr.some
  subst this
  refine ⟨⟨hr, ?_, ⟨r, rfl, s, g, l, u⟩, by omega, h.lej, h.up, h.upEnd, fun t ht => ?_⟩, by omega⟩
  · show ar .mul .f64 (dv (hv (some b) j) i) (some two6) = some r
    rw [h.isx, e]
  · by_cases htj : t = i
    · subst htj; rw [h.isx]; exact hc
    · exact h.down t (by omega)
theorem L2.done {b j i x : Nat} (h : L2 b j i x) (hc : cm .lss .f64 (some x) (some lo6) = false) : lgV b = lgF (some x) ((j : Int) - i) :=
  lgV_eq ⟨j, i, h.up, h.upEnd, h.down, by rw [h.isx]; exact hc, by rw [h.isx]⟩

theorem L2.bd {b j i x : Nat} (h : L2 b j i x) (hc : cm .lss .f64 (some x) (some lo6) = false) : Bd .f64 (lgV b) 1089 := by
  rw [h.done hc]
  have := h.le
  have := h.lej
  exact lgF_bd h.ps hc (by omega) (by omega)

theorem fe_is {n : Int} {r : Nat} {v : Option Nat} (h : Rep .f64 v r) (e : v = some (fe n)) : r = fe n := by
  rw [e] at h
  exact h.some

set_option maxHeartbeats 2000000 in
theorem log_impl {b : Nat} (hb : Rep .f64 (some b) b) (hp : Ps .f64 (some b) 925 1202) (w : World) : Calls Try.prog 74 #[.float .f64 b] w fun e w' => ∃ r, e = .returned (.float .f64 r) ∧ Rep .f64 (lgV b) r ∧ Bd .f64 (lgV b) 1089 ∧ ∃ n, w' = w.drewN n := by
  have c1 := rep_one
  have c2 := rep_two
  have c3 := rep_hi
  have c4 := rep_lo
  go_enter Try.func74, Try.ntmps74
  go_wp2
  go_loopw [0, 3] (fun i o wr => ∃ (j q x : Nat), i = .float .f64 x ∧ o = .float .f64 (fe j) ∧ wr = w.drewN q ∧ L1 b j x) (fun _ o _ => (200 - eOf o).toNat)
  case atStart => exact ⟨0, 0, b, rfl, rfl, rfl, L1.zero hb hp⟩
  case round =>
    obtain ⟨j, q, x, rfl, rfl, rfl, HL⟩ := hrel
    have hx := HL.rep
    cases hc : cm .geq .f64 (some x) (some hi6)
    · have g1 := geq_is hx c3 hc
      have H2 := Lib.hid (L2.zero HL hc)
      clear HL hx hc
      go_wp2
      clear g1
      go_loopw [0, 3] (fun i o wr => ∃ (i2 q x : Nat), i = .float .f64 x ∧ o = .float .f64 (fe ((j : Int) - i2)) ∧ wr = w.drewN q ∧ L2 b j i2 x) (fun _ o _ => (eOf o + 200).toNat)
      case atStart => exact ⟨0, q, x, rfl, by simp, rfl, H2.out⟩
      case round =>
        obtain ⟨i2, q, x, rfl, rfl, rfl, HL⟩ := hrel
        have hx := HL.rep
        cases hc : cm .lss .f64 (some x) (some lo6)
        · have g1 := lss_is hx c4 hc
          go_wp2_with (refine wpList_ar rfl _ _ _ _ _ rfl rfl _ _ _ rfl rfl (by assumption) (by assumption) ?_; intro r n hr)
          rename_i r1 n1 hr1 r2 n2 hr2 r3 n3 hr3 K1 a1
          have hs : Rep .f64 (sfV (some x)) r3 := hr3
          have hu : Rep .f64 (ar .mul .f64 (sfV (some x)) (sfV (some x))) r := hr
          have HD := Lib.hid (HL.done hc)
          have HB := Lib.hid (HL.bd hc)
          clear hr hr1 hr2 hr3 g1 hc HL hx
          go_loopw [6, 7] (fun i o wr => ∃ (t q s : Nat), t ≤ 13 ∧ i = .float .f64 s ∧ o = .float .f64 (fe (25 - 2 * (t : Int))) ∧ wr = w.drewN q ∧ Rep .f64 (qv (ar .mul .f64 (sfV (some x)) (sfV (some x))) t) s) (fun _ o _ => (eOf o + 200).toNat)
          case atStart => exact ⟨0, _, 0, Nat.zero_le _, rfl, by rw [show fe (25 - 2 * ((0 : Nat) : Int)) = 4627730092099895296 by decide +kernel], rfl, rep_z6⟩
          case round =>
            obtain ⟨t, q, s, ht, rfl, rfl, rfl, hq⟩ := hrel
            have hk := fe_rep (25 - 2 * (t : Int))
            by_cases hlt : t < 13
            · have g1 := geq_is hk c1 ((fe_k t (by omega)).trans (decide_eq_true hlt))
              go_wp2_with (refine wpList_ar rfl _ _ _ _ _ rfl rfl _ _ _ rfl rfl (by assumption) (by assumption) ?_; intro r n hr)
              rename_i r4 n4 hr4 r5 n5 hr5 r6 n6 hr6
              obtain rfl := fe_is hr (fe_k2 t hlt)
              have e1 := eOf_fe (25 - 2 * ((t + 1 : Nat) : Int)) (by omega) (by omega)
              have e2 := eOf_fe (25 - 2 * (t : Int)) (by omega) (by omega)
              go_roundw
              case rel => exact ⟨t + 1, _, _, by omega, rfl, rfl, rfl, hr6⟩
              case measure => rw [e1, e2]; omega
            · have g1 := geq_is hk c1 ((fe_k t (by omega)).trans (decide_eq_false hlt))
              obtain rfl : t = 13 := by omega
              have he := fe_rep ((j : Int) - i2)
              have c5 := rep_ln
              go_wp2_with (refine wpList_ar rfl _ _ _ _ _ rfl rfl _ _ _ rfl rfl (by assumption) (by assumption) ?_; intro r n hr)
              go_ret
              refine ⟨_, rfl, ?_, HB.out, _, rfl⟩
              rw [HD.out]
              assumption
        · have g1 := lss_is hx c4 hc
          have he := fe_rep ((j : Int) - i2)
          have hj := HL.lej
          go_wp2_with (refine wpList_ar rfl _ _ _ _ _ rfl rfl _ _ _ rfl rfl (by assumption) (by assumption) ?_; intro r n hr)
          rename_i r1 n1 hr1
          obtain ⟨HN, hlt⟩ := HL.next hc hr1
          obtain rfl := fe_is hr (fe_dec _ (by omega) (by omega))
          have e1 := eOf_fe ((j : Int) - i2 - 1) (by omega) (by omega)
          have e2 := eOf_fe ((j : Int) - i2) (by omega) (by omega)
          go_roundw
          case rel => exact ⟨i2 + 1, _, _, rfl, by rw [show (j : Int) - (i2 + 1 : Nat) = (j : Int) - i2 - 1 by omega], rfl, HN⟩
          case measure => rw [e1, e2]; omega
    · have g1 := geq_is hx c3 hc
      have he := fe_rep j
      go_wp2_with (refine wpList_ar rfl _ _ _ _ _ rfl rfl _ _ _ rfl rfl (by assumption) (by assumption) ?_; intro r n hr)
      rename_i r1 n1 hr1
      obtain ⟨HN, hlt⟩ := HL.next hc hr1
      obtain rfl := fe_is hr (fe_inc _ (by omega) (by omega))
      have e1 := eOf_fe ((j : Int) + 1) (by omega) (by omega)
      have e2 := eOf_fe (j : Int) (by omega) (by omega)
      go_roundw
      case rel => exact ⟨j + 1, _, _, rfl, by simp, rfl, HN⟩
      case measure => rw [e1, e2]; omega
end Go.Proofs.Ytpebdcimbdbbmaa
