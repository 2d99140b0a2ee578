/-
  Powers and logarithms at eighths: the program's functions; the law's gap and choice of a number. Conditions: those that each theorem names.
-/
import Derived.Test.YtpebdcimbdbbmaaPowT
import Derived.Test.YtpebdcimbdbbmaaLogK
import Derived.Test.YtpebdcimbdbbmaaArgB
namespace Go.Proofs.Ytpebdcimbdbbmaa
set_option linter.unusedVariables false
set_option linter.unusedSimpArgs false
open Go.RowKit Flo Mem

theorem rp_to {k : FloatKind} {v u : Option Nat} {r : Nat} (h : Rep k v r) (e : u = v) : Rep k u r := by rw [e]; exact h
theorem rep_256 : Rep .f64 (some 4643211215818981376) 4643211215818981376 := rep_lit _ _ (by decide +kernel)
theorem fe_12 : fe (12 - ((0 : Nat) : Int)) = 4622945017495814144 := by decide +kernel
theorem fe_k12 : ∀ t : Nat, t < 13 → cm .geq .f64 (some (fe (12 - t))) (some one6) = decide (t < 12) := by decide +kernel
theorem fe_d12 : ∀ t : Nat, t < 12 → ar .sub .f64 (some (fe (12 - t))) (some one6) = some (fe (12 - (t + 1 : Nat))) := by decide +kernel

set_option maxHeartbeats 2000000 in
theorem exp_any {x c : Nat} (hn : nan .f32 x = false) (h1 : cm .gtr .f32 (some x) (some 1128792064) = false) (h2 : cm .lss .f32 (some x) (some 3276275712) = false) (ho : over (exV x) = false) (hd : down (exV x) = some c) (w : World) :
    Calls Try.prog 31 #[.float .f32 x] w fun e w' => e = .returned (.float .f32 c) ∧ ∃ n, w' = w.drewN n := by
  have g1 : (FloatKind.f32.format.order x 1128792064 == some .gt) = false := h1
  have g2 : (FloatKind.f32.format.order x 3276275712 == some .lt) = false := h2
  have ux : Rep .f64 (some (upw x)) (upw x) := rep_some (upw_lt x) (upw_nan hn)
  have hc := fun w => run_upw (P := Try.prog) 22 26 Try.underlying22 Try.underlying26 hn w
  have c1 := rep_one
  have c9 := rep_256
  have HD := Lib.hid hd
  clear h1 h2 hn hd
  go_enter Try.func31, Try.ntmps31
  go_wp2_with (refine wpList_ar rfl _ _ _ _ _ rfl rfl _ _ _ rfl rfl ux c9 ?_; intro r n hr)
  have ht : Rep .f64 (tE x) r := hr
  clear hr ux c9
  have hfe := fe_12
  go_loopw [4, 5] (fun i o wr => ∃ (t q s : Nat), t ≤ 12 ∧ i = .float .f64 s ∧ o = .float .f64 (fe (12 - (t : Int))) ∧ wr = w.drewN q ∧ Rep .f64 (pE (tE x) t) s) (fun _ o _ => (eOf o + 200).toNat)
  case atStart => exact ⟨0, _, _, Nat.zero_le _, rfl, by rw [fe_12], rfl, c1⟩
  case round =>
    clear hfe
    obtain ⟨t, q2, p, ht8, rfl, rfl, rfl, hp⟩ := hrel
    have hk := fe_rep (12 - (t : Int))
    by_cases hlt : t < 12
    · have g1 := geq_is hk c1 ((fe_k12 t (by omega)).trans (decide_eq_true hlt))
      go_wp2_with (refine wpList_ar rfl _ _ _ _ _ rfl rfl _ _ _ rfl rfl (by assumption) (by assumption) ?_; intro r n hr)
      rename_i r4 n4 hr4
      obtain rfl := fe_is hr (fe_d12 t hlt)
      have e1 := eOf_fe (12 - ((t + 1 : Nat) : Int)) (by omega) (by omega)
      have e2 := eOf_fe (12 - (t : Int)) (by omega) (by omega)
      go_roundw
      case rel => exact ⟨t + 1, _, _, by omega, rfl, rfl, rfl, hr4⟩
      case measure => rw [e1, e2]; omega
    · obtain rfl : t = 12 := by omega
      have e12 : fe (12 - ((12 : Nat) : Int)) = 0 := by decide +kernel
      have g1 : (FloatKind.f64.format.order 0 4607182418800017408 == some .gt || FloatKind.f64.format.order 0 4607182418800017408 == some .eq) = false := by decide +kernel
      clear hlt hk
      rw [e12]
      go_wp2
      clear g1 e12
      go_loopw [4, 27] (fun i o wr => ∃ (t q s : Nat), t ≤ 8 ∧ i = .float .f64 s ∧ o = .int .i64 (t : Int) ∧ wr = w.drewN q ∧ Rep .f64 (sqE (pE (tE x) 12) t) s) (fun _ o _ => (8 - intOf o).toNat)
      case atStart => exact ⟨0, _, _, Nat.zero_le _, rfl, rfl, rfl, hp⟩
      case round =>
        clear hp
        obtain ⟨t, q2, s, ht8, rfl, rfl, rfl, hs⟩ := hrel
        by_cases hlt : t < 8
        · go_wp2_with (refine wpList_ar rfl _ _ _ _ _ rfl rfl _ _ _ rfl rfl hs hs ?_; intro r n hr)
          go_roundw
          case rel => exact ⟨t + 1, _, _, by omega, rfl, by go_num, rfl, hr⟩
          case measure => simp [intOf]; omega
        · obtain rfl : t = 8 := by omega
          have hs8 : Rep .f64 (exV x) s := hs
          go_wp2_with (refine wpList_down rfl _ _ _ rfl Try.underlying26 Try.underlying22 _ rfl hs8 ho ?_; intro r3 n3 hr3)
          go_ret
          have := (rp_to hr3 HD.out.symm).some
          subst this
          exact ⟨rfl, _, rfl⟩

set_option maxHeartbeats 1000000 in
theorem log_any {b l : Nat} (h : Rep .f32 (tell .f32 b) b) (hr : rg .f32 b < FloatKind.f32.format.infRung) (ho : FloatKind.f32.format.order b 0 = some .gt) (hl : down (lgV (upw b)) = some l) (w : World) :
    Calls Try.prog 35 #[.float .f32 b] w fun e w' => e = .returned (.float .f32 l) ∧ ∃ n, w' = w.drewN n := by
  have hn := (not_nan_iff .f32 b).2 (Nat.le_of_lt hr)
  have hself := order_self hn
  have hp := up_ps hr ho
  have hru : Rep .f64 (some (upw b)) (upw b) := rep_some (upw_lt b) (upw_nan hn)
  have hc := fun w => run_upw (P := Try.prog) 22 26 Try.underlying22 Try.underlying26 hn w
  have hend : endS b = true := by
    unfold endS
    exact decide_eq_true hr
  have HL := Lib.hid hl
  clear hl
  go_enter Try.func35, Try.ntmps35
  go_wp2_with (first
    | (go_at_call 73; refine (finite_impl h _).mono ?_; rintro e w' ⟨rfl, n, rfl⟩)
    | (go_at_call 74; refine (log_impl hru hp _).mono ?_; rintro e w' ⟨r2, rfl, hr2, hb2, n2, rfl⟩)
    | (refine wpList_down rfl _ _ _ rfl Try.underlying26 Try.underlying22 _ rfl hr2 (over_bd hb2 (by decide)) ?_; intro r3 n3 hr3))
  go_ret
  have := (rp_to hr3 HL.out.symm).some
  subst this
  exact ⟨rfl, _, rfl⟩

theorem gap_any {a b g : Nat} (ha : Rep .f64 (some a) a) (hb : Rep .f64 (some b) b) (hg : gapV (some a) (some b) = some g) (w : World) :
    Calls Try.prog 47 #[.float .f64 a, .float .f64 b] w fun e w' => e = .returned (.float .f64 g) ∧ w = w' := by
  unfold gapV at hg
  cases hc : cm .lss .f64 (some a) (some b)
  · rw [hc, if_neg (by decide)] at hg
    have h1 := lss_is ha hb hc
    have h2 := fun w => run_float_arith (P := Try.prog) w .sub 26 .f64 a b g hg
    clear hc hg
    go_enter Try.func47, Try.ntmps47
    go_wp2
    go_ret
    exact ⟨rfl, rfl⟩
  · rw [hc, if_pos rfl] at hg
    have h1 := lss_is ha hb hc
    have h2 := fun w => run_float_arith (P := Try.prog) w .sub 26 .f64 b a g hg
    clear hc hg
    go_enter Try.func47, Try.ntmps47
    go_wp2
    go_ret
    exact ⟨rfl, rfl⟩

/-- A number from 0 on, below m; the world is as it was. -/
def AtPost (m : Int) (w : World) (e : Ending) (w' : World) : Prop := (∃ z : Int, e = .returned (.int .i64 z) ∧ 0 ≤ z ∧ z < m) ∧ w = w'

theorem at_any (A : Option Addr) (n c : Nat) (zs : List Int) (hz : ∀ z ∈ zs, (Lit.int .u8 z).wf = true) (i m : Int) (hi : 0 ≤ i) (hi2 : i ≤ 1000) (hm : 2 ≤ m) (hm2 : m ≤ 1000000) (w : World) (h : Sl w A n (valsU zs)) (hn : n ≤ 1048576) :
    Calls Try.prog 46 #[.slice A n c, .int .i64 i, .int .i64 m] w (AtPost m w) := by
  by_cases hlt : i < (n : Int)
  · obtain ⟨b, off, u, rfl, hb, hu, hc⟩ := h.at_ (k := i.toNat) (by omega)
    have hu2 := valsU_at hu
    have hzz : ∃ z : Int, u = .int .u8 z ∧ 0 ≤ z ∧ z ≤ 255 := by
      refine ⟨_, hu2, ?_⟩
      have hk : i.toNat < zs.length := by
        have := (List.getElem?_eq_some_iff.1 hu).1
        rwa [valsU_len] at this
      have := hz (zs.getD i.toNat 0) (by rw [List.getD_eq_getElem?_getD, List.getElem?_eq_getElem hk]; exact List.getElem_mem hk)
      simp [Lit.wf, IntKind.min, IntKind.max, IntKind.signed, IntKind.bits] at this
      exact this
    obtain ⟨z, rfl, z0, z1⟩ := hzz
    obtain ⟨k, rfl⟩ : ∃ k : Nat, i = (k : Int) := ⟨i.toNat, by omega⟩
    simp only [Int.toNat_natCast] at hc
    clear hu hu2 hz h
    have hlt2 : k < n := by omega
    go_enter Try.func46, Try.ntmps46
    go_wp2
    go_ret
    exact ⟨⟨_, rfl, Int.emod_nonneg _ (by omega), Int.emod_lt_of_pos _ (by omega)⟩, rfl⟩
  · clear h hz
    go_enter Try.func46, Try.ntmps46
    go_wp2
    go_ret
    exact ⟨⟨_, rfl, Int.emod_nonneg _ (by omega), Int.emod_lt_of_pos _ (by omega)⟩, rfl⟩

/-- Whether a list is too long. -/
def LongPost (n m : Nat) (w : World) (e : Ending) (w' : World) : Prop := (∃ t : Bool, e = .returned (.bool t) ∧ (t = false → n ≤ 1048576 ∧ m ≤ 1048576)) ∧ w = w'

theorem long_any (A : Option Addr) (n c : Nat) (B : Option Addr) (m d : Nat) (hn : n ≤ 9223372036854775807) (hm : m ≤ 9223372036854775807) (w : World) :
    Calls Try.prog 45 #[.slice A n c, .slice B m d] w (LongPost n m w) := by
  by_cases h1 : (1048576 : Int) < n
  · go_enter Try.func45, Try.ntmps45
    go_wp2
    go_ret
    exact ⟨⟨_, rfl, fun h => by cases h⟩, rfl⟩
  · by_cases h2 : (1048576 : Int) < m
    · go_enter Try.func45, Try.ntmps45
      go_wp2
      go_ret
      exact ⟨⟨_, rfl, fun h => by cases h⟩, rfl⟩
    · go_enter Try.func45, Try.ntmps45
      go_wp2
      go_ret
      exact ⟨⟨_, rfl, fun _ => ⟨by omega, by omega⟩⟩, rfl⟩
end Go.Proofs.Ytpebdcimbdbbmaa
