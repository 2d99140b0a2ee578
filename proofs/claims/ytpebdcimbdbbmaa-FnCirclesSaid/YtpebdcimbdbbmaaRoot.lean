/-
  The square root as the program calls it; its bound; what is bounded fits a float32; a float32 as a float64 is bounded. Conditions: those that each theorem names.
-/
import Derived.Test.YtpebdcimbdbbmaaBd
import Derived.Test.YtpebdcimbdbbmaaWide
import Derived.Test.YtpebdcimbdbbmaaRows
import Derived.Laws.Externs
namespace Go.Proofs.Ytpebdcimbdbbmaa
open Go.RowKit Flo
namespace Flo

theorem lp64 : FloatKind.f64.format.leastPlace = -1074 := by decide +kernel
theorem lp32 : FloatKind.f32.format.leastPlace = -149 := by decide +kernel

/-- What is at most 2^127 fits a float32. -/
theorem over_bd {v : Option Nat} {a : Nat} (h : Bd .f64 v a) (ha : a ≤ 1201) : over v = false := by
  obtain ⟨A, hA⟩ : ∃ A : Nat, A = 1201 := ⟨_, rfl⟩
  obtain ⟨E, hE⟩ : ∃ E : Nat, E = 925 := ⟨_, rfl⟩
  obtain ⟨b, m, p, rfl, hr, hp, _, h1⟩ := (h.mono (show a ≤ A by omega)).read
  have hd : FloatKind.f64.decode b = .number (sg .f64 b) m p := hr
  unfold over
  simp only [hd]
  have hb : Bd .f32 (some (FloatKind.f32.format.nearest (sg .f64 b) m p)) (A - E) := by
    refine bd_nearest (show A - E < 277 by omega) ?_
    rw [lp64] at h1 hp
    rw [lp32]
    have h2 := Nat.mul_le_mul_right (2 ^ (-149 - p).toNat) h1
    rw [Nat.mul_assoc, ← Nat.pow_add, ← Nat.pow_add, show (p - -1074).toNat + (-149 - p).toNat = (p - -149).toNat + E by omega, show A + (-149 - p).toNat = A - E + (-149 - p).toNat + E by omega, Nat.pow_add 2 _ E, Nat.pow_add 2 _ E, ← Nat.mul_assoc] at h2
    exact Nat.le_of_mul_le_mul_right h2 (Nat.two_pow_pos _)
  obtain ⟨c, m', e, hc, hr', _⟩ := hb.read
  injection hc with hc
  have hd2 : FloatKind.f32.decode (FloatKind.f32.encode (.number (sg .f64 b) m p)) = .number (sg .f32 c) m' e := by rw [← hr', ← hc]; rfl
  rw [hd2]
  rfl

theorem over_inf {v : Option Nat} (h : ∀ b, v = some b → rg .f64 b = FloatKind.f64.format.infRung) : over v = false := by
  cases v with
  | none => rfl
  | some b =>
    have hd : FloatKind.f64.decode b = .infinity (sg .f64 b) := read_inf .f64 b (h b rfl)
    unfold over
    simp only [hd]
    rfl

/-- A float32 as a float64. -/
theorem bd_up0 {b : Nat} (h : rg .f32 b < FloatKind.f32.format.infRung) : Bd .f64 (some (upw b)) (topE .f32 + E9) := by
  obtain ⟨q, eq, hq, hv⟩ := upw_fin b h
  have hsv := up_sv h
  refine ⟨_, rfl, ?_⟩
  rw [eq, (word_sg .f64 _ q (Nat.le_of_lt hq)).2]
  refine ⟨hq, ?_⟩
  have h2 : mg FloatKind.f32.format.binade (rg .f32 b) ≤ 2 ^ topE .f32 := by
    have := mg_le (binade_pos .f32) (Nat.le_of_lt h)
    rw [mg_top] at this
    exact this
  have e1 : mg FloatKind.f64.format.binade q = mg FloatKind.f32.format.binade (rg .f32 b) * 2 ^ E9 := by
    rw [eq, word_sv .f64 _ q (Nat.le_of_lt hq)] at hsv
    unfold sv at hsv
    have hc : ((mg FloatKind.f32.format.binade (rg .f32 b) * 2 ^ E9 : Nat) : Int) = (mg FloatKind.f32.format.binade (rg .f32 b) : Int) * ((2 ^ E9 : Nat) : Int) := Int.natCast_mul _ _
    cases hs : sg .f32 b
    · rw [hs] at hsv
      simp only [Bool.false_eq_true, if_false] at hsv
      rw [← hc] at hsv
      exact Int.ofNat_inj.1 hsv
    · rw [hs] at hsv
      simp only [if_true] at hsv
      rw [Int.neg_mul, ← hc] at hsv
      exact Int.ofNat_inj.1 (Int.neg_inj.1 hsv)
  rw [e1]
  have h3 := Nat.mul_le_mul_right (2 ^ E9) h2
  rw [← Nat.pow_add] at h3
  exact h3
theorem bd_up {b : Nat} (h : rg .f32 b < FloatKind.f32.format.infRung) : Bd .f64 (some (upw b)) 1202 := (bd_up0 h).mono (by decide)

theorem rootFrom_le (n : Nat) : ∀ todo root, root * root ≤ n → Ieee.Datum.rootFrom n todo root * Ieee.Datum.rootFrom n todo root ≤ n := by
  intro todo
  induction todo with
  | zero => intro root h; exact h
  | succ t ih =>
    intro root h
    unfold Ieee.Datum.rootFrom
    simp only
    split
    · rename_i h2; exact ih _ h2
    · exact ih _ h

/-- The square root of a told number. -/
def rt (v : Option Nat) : Option Nat := v.bind fun b => FloatKind.f64.format.sqrt b

theorem root_le {w n T : Nat} (hw : w * w ≤ n) (hT : n ≤ T * T) : 2 * w + (w * w != n).toNat ≤ 2 * T := by
  have h1 : w ≤ T := by
    rcases Nat.lt_or_ge T w with h | h
    · have := Nat.mul_lt_mul_of_lt_of_le h (Nat.le_of_lt h) (Nat.zero_lt_of_lt h)
      omega
    · exact h
  rcases Nat.lt_or_eq_of_le h1 with h | h
  · have : ∀ b : Bool, b.toNat ≤ 1 := fun b => by cases b <;> decide
    have := this (w * w != n)
    omega
  · subst h
    have : w * w = n := by omega
    simp [this]

theorem bd_root {v : Option Nat} {a e : Nat} (h : Bd .f64 v a) (he : e < 2098) (hae : a + 1074 ≤ 2 * e) : rt v = none ∨ Bd .f64 (rt v) e := by
  obtain ⟨b, m, i, rfl, hr, hi, _, h1⟩ := h.read
  show FloatKind.f64.format.sqrt b = none ∨ Bd .f64 (FloatKind.f64.format.sqrt b) e
  unfold Ieee.Format.sqrt
  rw [hr]
  unfold Ieee.Datum.root
  by_cases hm : m = 0
  · subst hm
    right
    simp only [if_true]
    refine bd_nearest he ?_
    simp
  · simp only [if_neg hm]
    cases sg .f64 b
    · right
      simp only [Bool.false_eq_true, if_false]
      have lm : m.log2 + (i - FloatKind.f64.format.leastPlace).toNat ≤ a := by
        have h2 := Nat.le_trans (Nat.mul_le_mul_right (2 ^ (i - FloatKind.f64.format.leastPlace).toNat) (Nat.log2_self_le hm)) h1
        rw [← Nat.pow_add] at h2
        exact (Nat.pow_le_pow_iff_right (by decide)).1 h2
      rw [lp64] at hi lm h1
      generalize hq : 2 * (FloatKind.f64.format.fractionBits + 2) - m.log2 = q
      generalize hw : q + ((i - (q : Int)) % 2).toNat = w
      have hev : (i - (w : Int)) % 2 = 0 := by omega
      refine bd_nearest he ?_
      rw [lp64]
      generalize hx : ((i - (w : Int)) / 2 - 1 - -1074).toNat = x
      generalize hy : (-1074 - ((i - (w : Int)) / 2 - 1)).toNat = y
      -- T = 2^t
      have ht0 : 0 ≤ (e : Int) - 1074 - (i - w) / 2 := by omega
      generalize ht : ((e : Int) - 1074 - (i - w) / 2).toNat = t
      have hn : m <<< w ≤ 2 ^ t * 2 ^ t := by
        rw [Nat.shiftLeft_eq, ← Nat.pow_add]
        have h2 := Nat.mul_le_mul_right (2 ^ w) h1
        rw [Nat.mul_assoc, ← Nat.pow_add, Nat.add_comm (i - -1074).toNat w, Nat.pow_add 2 w, ← Nat.mul_assoc] at h2
        have h3 : 2 ^ a * 2 ^ w ≤ 2 ^ (t + t) * 2 ^ (i - -1074).toNat := by
          rw [← Nat.pow_add, ← Nat.pow_add]
          exact Nat.pow_le_pow_right (by decide) (by omega)
        exact Nat.le_of_mul_le_mul_right (Nat.le_trans h2 h3) (Nat.two_pow_pos _)
      have h4 := root_le (rootFrom_le (m <<< w) ((m <<< w).log2 / 2 + 1) 0 (by simp)) hn
      have h5 := Nat.mul_le_mul_right (2 ^ x) h4
      refine Nat.le_trans h5 ?_
      rw [show 2 * 2 ^ t = 2 ^ (t + 1) by rw [Nat.pow_succ, Nat.mul_comm], ← Nat.pow_add]
      exact Nat.pow_le_pow_right (by decide) (by omega)
    · left
      simp

theorem rt_inf {b : Nat} (h : rg .f64 b = FloatKind.f64.format.infRung) : rt (some b) = none ∨ ∃ c, rt (some b) = some c ∧ rg .f64 c = FloatKind.f64.format.infRung := by
  show FloatKind.f64.format.sqrt b = none ∨ ∃ c, FloatKind.f64.format.sqrt b = some c ∧ _
  unfold Ieee.Format.sqrt
  rw [read_inf .f64 b h]
  cases sg .f64 b
  · right
    exact ⟨_, rfl, (word_sg .f64 false _ (Nat.le_refl _)).2⟩
  · left; rfl

theorem rt_some {b r : Nat} (h : FloatKind.f64.format.sqrt b = some r) : Rep .f64 (some r) r := by
  unfold Ieee.Format.sqrt at h
  refine rep_some ?_ (map_write h fun d hd => root_nan hd)
  rw [Option.map_eq_some_iff] at h
  obtain ⟨d, _, rfl⟩ := h
  exact FloatKind.f64.format.write_lt _
end Flo

theorem run_sqrt {b : Nat} {v : Option Nat} (h : Rep .f64 v b) (w : World) : ∃ r n, (callFunc 95 #[.float .f64 b]).run Try.prog w = .ok (.value (.float .f64 r)) (w.drewN n) ∧ Rep .f64 (rt v) r := by
  rw [run_callFunc_extern Try.func95 (by kernel_rfl) (by kernel_rfl) (by kernel_rfl) (e := Extern.MathSqrt.sqrt) (by kernel_rfl)]
  have eq : Extern.MathSqrt.sqrt #[.float .f64 b] = (match FloatKind.f64.format.sqrt b with | some r => pure (.float .f64 r) | none => do pure (.float .f64 (← choose (.nanBits .f64 b b)))) := rfl
  rw [eq]
  cases hs : FloatKind.f64.format.sqrt b with
  | some r =>
    refine ⟨r, 0, rfl, ?_⟩
    cases v with
    | none =>
      obtain ⟨s, t, e⟩ := read_nan h.none
      simp [Ieee.Format.sqrt, e, Ieee.Datum.root] at hs
    | some c =>
      have := h.some
      subst this
      show Rep .f64 (FloatKind.f64.format.sqrt b) r
      rw [hs]
      exact rt_some hs
  | none =>
    refine ⟨(Question.nanBits .f64 b b).cut (w.tape w.drawn (.nanBits .f64 b b)), 1, by simp [Result.andThen, Question.forced, World.drew_is_drewN], ?_⟩
    have : rt v = none := by
      cases v with
      | none => rfl
      | some c =>
        have := h.some
        subst this
        exact hs
    rw [this]
    exact cut_nan .f64 b b _

theorem sqrt_any {b : Nat} {v : Option Nat} (h : Rep .f64 v b) (w : World) : Calls Try.prog 70 #[.float .f64 b] w fun e w' => ∃ r, e = .returned (.float .f64 r) ∧ Rep .f64 (rt v) r ∧ ∃ n, w' = w.drewN n := by
  obtain ⟨r, n, hrun, hr⟩ := run_sqrt h w
  have HR := Lib.hid hr
  clear hr
  go_enter Try.func70, Try.ntmps70
  go_wp2
  go_ret
  exact ⟨_, rfl, HR.out, _, rfl⟩

/-- The reference's conversion. -/
theorem narrow_spec {b : Nat} {v : Option Nat} (h : Rep .f64 v b) (ho : over v = false) (w : World) : Calls Try.prog 93 #[.float .f64 b] w fun e w' => ∃ r, e = .returned (.float .f32 r) ∧ Rep .f32 (down v) r ∧ ∃ n, w' = w.drewN n := by
  go_enter Try.func93, Try.ntmps93
  go_wp2_with (refine wpList_down rfl _ _ _ rfl Try.underlying26 Try.underlying22 _ rfl h ho ?_; intro r n hr)
  go_ret
  exact ⟨_, rfl, by assumption, _, rfl⟩

end Go.Proofs.Ytpebdcimbdbbmaa
