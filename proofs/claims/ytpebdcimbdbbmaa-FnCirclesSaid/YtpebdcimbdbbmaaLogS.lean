/-
  The logarithm: the reference's function. Conditions: a positive finite number.
-/
import Derived.Test.YtpebdcimbdbbmaaLogW
namespace Go.Proofs.Ytpebdcimbdbbmaa
open Go.RowKit Flo

theorem gt_zero {b : Nat} {c a : Nat} (hp : Ps .f64 (some b) c a) : FloatKind.f64.format.order b 0 = some .gt := by
  obtain ⟨x, e, s, r, l, u⟩ := hp
  injection e with e
  subst e
  rw [order_sv .f64 b 0 ((not_nan_iff .f64 b).2 (Nat.le_of_lt r)) (by decide +kernel), sv_pos s, show sv .f64 0 = 0 by decide +kernel, cmp_int]
  have := Nat.two_pow_pos c
  rw [if_neg (by omega), if_neg (by omega)]

theorem not_inf {b : Nat} {c a : Nat} (hp : Ps .f64 (some b) c a) : (FloatKind.f64.format.order b 9218868437227405311 == some .gt) = false := by
  obtain ⟨x, e, s, r, l, u⟩ := hp
  injection e with e
  subst e
  have hI : FloatKind.f64.format.infRung = 9218868437227405312 := rfl
  rw [order_pos .f64 _ _ ((not_nan_iff .f64 b).2 (Nat.le_of_lt r)) (by decide +kernel) s (by decide +kernel)]
  have : rg .f64 9218868437227405311 = 9218868437227405311 := by decide +kernel
  rw [this]
  show (some (compareOfLessAndEq (rg .f64 b) 9218868437227405311) == some .gt) = _
  unfold compareOfLessAndEq
  by_cases h2 : rg .f64 b < 9218868437227405311
  · rw [if_pos h2]; rfl
  · rw [if_neg h2, if_pos (by omega)]; rfl

theorem inf_one {b : Nat} {t : Bool} (h : (FloatKind.f64.format.order b 9218868437227405311 == some .gt) = t) (w : World) : Calls Try.prog 101 #[.float .f64 b, .int .i64 1] w fun e w' => e = .returned (.bool t) ∧ w = w' := by
  go_enter Try.func101, Try.ntmps101
  go_wp2
  go_ret
  exact ⟨rfl, rfl⟩

set_option maxHeartbeats 2000000 in
theorem log_spec {b : Nat} (hb : Rep .f64 (some b) b) (hp : Ps .f64 (some b) 925 1202) (w : World) : Calls Try.prog 96 #[.float .f64 b] w fun e w' => ∃ r, e = .returned (.float .f64 r) ∧ Rep .f64 (lgV b) r ∧ Bd .f64 (lgV b) 1089 ∧ ∃ n, w' = w.drewN n := by
  have c1 := rep_one
  have c2 := rep_two
  have c3 := rep_hi
  have c4 := rep_lo
  have hself := order_self hb.2.2
  have hgt := gt_zero hp
  have hinf := not_inf hp
  have hfe : ∀ n, floatOfInt .f64 n = fe n := fun _ => rfl
  go_enter Try.func96, Try.ntmps96
  go_wp2_with (go_at_call 101; refine (inf_one hinf _).mono ?_; rintro e w' ⟨rfl, rfl⟩)
  go_loopw [0, 3] (fun i o wr => ∃ (j q x : Nat), i = .float .f64 x ∧ o = .int .i64 (j : Int) ∧ wr = w.drewN q ∧ L1 b j x) (fun _ o _ => (200 - intOf o).toNat)
  case atStart => exact ⟨0, 0, b, rfl, rfl, rfl, L1.zero hb hp⟩
  case round =>
    obtain ⟨j, q, x, rfl, rfl, rfl, HL⟩ := hrel
    have hx := HL.rep
    cases hc : cm .geq .f64 (some x) (some hi6)
    · have g1 := geq_is hx c3 hc
      have H2 := Lib.hid (L2.zero HL hc)
      clear HL hx hc
      go_wp2
      clear g1
      go_loopw [0, 3] (fun i o wr => ∃ (i2 q x : Nat), i = .float .f64 x ∧ o = .int .i64 ((j : Int) - i2) ∧ wr = w.drewN q ∧ L2 b j i2 x) (fun _ o _ => (intOf o + 200).toNat)
      case atStart => exact ⟨0, q, x, rfl, by simp, rfl, H2.out⟩
      case round =>
        obtain ⟨i2, q, x, rfl, rfl, rfl, HL⟩ := hrel
        have hx := HL.rep
        cases hc : cm .lss .f64 (some x) (some lo6)
        · have g1 := lss_is hx c4 hc
          go_wp2_with (refine wpList_ar rfl _ _ _ _ _ rfl rfl _ _ _ rfl rfl (by assumption) (by assumption) ?_; intro r n hr)
          rename_i r1 n1 hr1 r2 n2 hr2 r3 n3 hr3 K1 a1
          have hs : Rep .f64 (sfV (some x)) r3 := hr3
          have hu : Rep .f64 (ar .mul .f64 (sfV (some x)) (sfV (some x))) r := hr
          have HD := Lib.hid (HL.done hc)
          have HB := Lib.hid (HL.bd hc)
          clear hr hr1 hr2 hr3 g1 hc HL hx
          go_loopw [6, 7] (fun i o wr => ∃ (t q s : Nat), t ≤ 13 ∧ i = .float .f64 s ∧ o = .int .i64 (25 - 2 * (t : Int)) ∧ wr = w.drewN q ∧ Rep .f64 (qv (ar .mul .f64 (sfV (some x)) (sfV (some x))) t) s) (fun _ o _ => (intOf o + 200).toNat)
          case atStart => exact ⟨0, _, 0, Nat.zero_le _, rfl, rfl, rfl, rep_z6⟩
          case round =>
            obtain ⟨t, q, s, ht, rfl, rfl, rfl, hq⟩ := hrel
            have hk := fe_rep (25 - 2 * (t : Int))
            by_cases hlt : t < 13
            · have g1 : (1 : Int) ≤ 25 - 2 * (t : Int) := by omega
              go_wp2_with (refine wpList_ar rfl _ _ _ _ _ rfl rfl _ _ _ rfl rfl (by assumption) (by assumption) ?_; intro r n hr)
              go_roundw
              case rel => exact ⟨t + 1, _, _, by omega, rfl, by rw [show 25 - 2 * ((t + 1 : Nat) : Int) = 25 - 2 * (t : Int) - 2 by omega], rfl, hr⟩
              case measure => simp [intOf]; omega
            · obtain rfl : t = 13 := by omega
              have he := fe_rep ((j : Int) - i2)
              have c5 := rep_ln
              go_wp2_with (refine wpList_ar rfl _ _ _ _ _ rfl rfl _ _ _ rfl rfl (by assumption) (by assumption) ?_; intro r n hr)
              go_ret
              refine ⟨_, rfl, ?_, HB.out, _, rfl⟩
              rw [HD.out]
              assumption
        · have g1 := lss_is hx c4 hc
          have hj := HL.lej
          have hi2 := HL.le
          go_wp2_with (refine wpList_ar rfl _ _ _ _ _ rfl rfl _ _ _ rfl rfl (by assumption) (by assumption) ?_; intro r n hr)
          obtain ⟨HN, hlt⟩ := HL.next hc hr
          go_roundw
          case rel => exact ⟨i2 + 1, _, _, rfl, by rw [show (j : Int) - (i2 + 1 : Nat) = (j : Int) - i2 - 1 by omega], rfl, HN⟩
          case measure => simp [intOf]; omega
    · have g1 := geq_is hx c3 hc
      have hjj := HL.le
      go_wp2_with (refine wpList_ar rfl _ _ _ _ _ rfl rfl _ _ _ rfl rfl (by assumption) (by assumption) ?_; intro r n hr)
      obtain ⟨HN, hlt⟩ := HL.next hc hr
      go_roundw
      case rel => exact ⟨j + 1, _, _, rfl, by go_num, rfl, HN⟩
      case measure => simp [intOf]; omega
end Go.Proofs.Ytpebdcimbdbbmaa
