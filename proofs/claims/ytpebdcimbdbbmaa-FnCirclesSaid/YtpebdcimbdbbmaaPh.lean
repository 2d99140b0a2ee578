/-
  The phasor: its quarter, its parts. Conditions: those that each theorem names.
-/
import Derived.Test.YtpebdcimbdbbmaaGreat
namespace Go.Proofs.Ytpebdcimbdbbmaa
set_option linter.unusedVariables false
set_option linter.unusedSimpArgs false
namespace Flo
open Go

/-- The nearest word of what is at most k0 * 2^q0 (in least places), where k0 fits the digits. -/
theorem nearest_leN (k : FloatKind) (s : Bool) (m : Nat) (p : Int) (k0 q0 : Nat) (hk0 : k0 < 2 ^ (k.format.fractionBits + 1)) (h : m * 2 ^ (p - k.format.leastPlace).toNat ≤ k0 * 2 ^ q0 * 2 ^ (k.format.leastPlace - p).toNat) :
    ∃ r, k.format.nearest s m p = k.format.word s r ∧ r ≤ k.format.infRung ∧ mg k.format.binade r ≤ k0 * 2 ^ q0 := by
  unfold Ieee.Format.nearest
  by_cases h0 : m = 0
  · rw [if_pos h0]
    refine ⟨0, rfl, Nat.zero_le _, ?_⟩
    unfold mg; rw [if_pos (binade_pos k)]; exact Nat.zero_le _
  · rw [if_neg h0]
    simp only
    have hfb : k.format.binade = 2 ^ k.format.fractionBits := rfl
    have hlo : 2 ^ m.log2 ≤ m := Nat.log2_self_le h0
    have hhi : m < 2 ^ (m.log2 + 1) := Nat.lt_log2_self
    have hlog : m.log2 + (p - k.format.leastPlace).toNat < k.format.fractionBits + 1 + q0 + (k.format.leastPlace - p).toNat := by
      have h1 : 2 ^ m.log2 * 2 ^ (p - k.format.leastPlace).toNat ≤ k0 * 2 ^ q0 * 2 ^ (k.format.leastPlace - p).toNat := Nat.le_trans (Nat.mul_le_mul_right _ hlo) h
      have h2 : k0 * 2 ^ q0 * 2 ^ (k.format.leastPlace - p).toNat < 2 ^ (k.format.fractionBits + 1) * 2 ^ q0 * 2 ^ (k.format.leastPlace - p).toNat :=
        Nat.mul_lt_mul_of_pos_right (Nat.mul_lt_mul_of_pos_right hk0 (Nat.two_pow_pos _)) (Nat.two_pow_pos _)
      have h3 := Nat.lt_of_le_of_lt h1 h2
      rw [← Nat.pow_add, ← Nat.pow_add, ← Nat.pow_add] at h3
      exact (Nat.pow_lt_pow_iff_right (by decide)).1 h3
    generalize hl : max (p + m.log2 - k.format.fractionBits) k.format.leastPlace = last
    generalize hu : (p - last).toNat = u
    generalize hd : (last - p).toNat = d
    generalize hq : (last - k.format.leastPlace).toNat = q
    generalize hu' : (p - k.format.leastPlace).toNat = u' at h hlog
    generalize hd' : (k.format.leastPlace - p).toNat = d' at h hlog
    rw [Nat.shiftLeft_eq]
    have hqa : q ≤ q0 := by omega
    have hsum : u' + d = u + q + d' := by omega
    have hk2 : Ieee.Toward.even.cut s (m * 2 ^ u) d ≤ 2 * k.format.binade := by
      refine cut_le ?_
      have e : 2 * k.format.binade = 2 ^ (k.format.fractionBits + 1) := by rw [hfb, Nat.pow_succ, Nat.mul_comm]
      rw [e, ← Nat.pow_add]
      have h1 : m * 2 ^ u ≤ 2 ^ (m.log2 + 1) * 2 ^ u := Nat.mul_le_mul_right _ (Nat.le_of_lt hhi)
      rw [← Nat.pow_add] at h1
      exact Nat.le_trans h1 (Nat.pow_le_pow_right (by decide) (by omega))
    have hk1 : q = 0 ∨ k.format.binade ≤ Ieee.Toward.even.cut s (m * 2 ^ u) d := by
      by_cases hq0 : q = 0
      · exact .inl hq0
      · right
        refine le_cut ?_
        rw [hfb, ← Nat.pow_add]
        have h1 : 2 ^ m.log2 * 2 ^ u ≤ m * 2 ^ u := Nat.mul_le_mul_right _ hlo
        rw [← Nat.pow_add] at h1
        exact Nat.le_trans (Nat.pow_le_pow_right (by decide) (by omega)) h1
    have hka : Ieee.Toward.even.cut s (m * 2 ^ u) d ≤ k0 * 2 ^ (q0 - q) := by
      refine cut_le ?_
      have h1 : m * 2 ^ u' * 2 ^ d ≤ k0 * 2 ^ q0 * 2 ^ d' * 2 ^ d := Nat.mul_le_mul_right _ h
      rw [Nat.mul_assoc, ← Nat.pow_add, hsum] at h1
      have h2 : m * 2 ^ u * 2 ^ (q + d') ≤ k0 * 2 ^ (q0 - q) * 2 ^ d * 2 ^ (q + d') := by
        rw [Nat.mul_assoc, ← Nat.pow_add, show u + (q + d') = u + q + d' by omega]
        refine Nat.le_trans h1 (Nat.le_of_eq ?_)
        rw [Nat.mul_assoc, Nat.mul_assoc, Nat.mul_assoc, Nat.mul_assoc, ← Nat.pow_add, ← Nat.pow_add, ← Nat.pow_add, ← Nat.pow_add]
        congr 2
        omega
      exact Nat.le_of_mul_le_mul_right h2 (Nat.two_pow_pos _)
    have hmg := mg_at (q := q) (binade_pos k) hk1 hk2
    refine ⟨_, rfl, Nat.min_le_right _ _, ?_⟩
    refine Nat.le_trans (mg_le (binade_pos k) (Nat.min_le_left _ _)) ?_
    rw [hmg]
    refine Nat.le_trans (Nat.mul_le_mul_right _ hka) ?_
    rw [Nat.mul_assoc, ← Nat.pow_add]
    exact Nat.le_of_eq (by congr 2; omega)

/-- A quarter, in least places. -/
def EQ : Nat := 1072
def Qt : Nat := 2 ^ EQ
theorem qt_sv : sv .f64 quart6 = (Qt : Int) := by decide +kernel
theorem qt_pos : 0 < Qt := by decide +kernel
theorem qt_four : 4 * Qt = 2 ^ 1074 := by decide +kernel
theorem qt_rg : rg .f64 quart6 < FloatKind.f64.format.infRung := by decide +kernel
theorem qt_nan : nan .f64 quart6 = false := by decide +kernel

theorem sub_quart {b n : Nat} (hb : rg .f64 b < FloatKind.f64.format.infRung) (hn : n ≤ 4) (h : (sv .f64 b - sv .f64 quart6).natAbs ≤ n * Qt) :
    ∃ r, ar .sub .f64 (some b) (some quart6) = some r ∧ rg .f64 r < FloatKind.f64.format.infRung ∧ mg FloatKind.f64.format.binade (rg .f64 r) ≤ n * Qt := by
  obtain ⟨E, hE⟩ : ∃ E : Nat, Qt = 2 ^ E := ⟨EQ, rfl⟩
  have hn53 : n < 2 ^ (FloatKind.f64.format.fractionBits + 1) := Nat.lt_of_le_of_lt hn (by decide)
  obtain ⟨m, i, hr, hi, e1⟩ := read_num .f64 b hb
  obtain ⟨n', j, hr2, hj, e2⟩ := read_num .f64 quart6 qt_rg
  have hsub : ar .sub .f64 (some b) (some quart6) = FloatKind.f64.format.sub b quart6 := rfl
  rw [hsub]
  unfold Ieee.Format.sub
  rw [hr, hr2]
  have f1 := sv_read (b := b) hi e1 (base := min i j) (by omega) (by omega)
  have f2 := sv_read (b := quart6) hj e2 (base := min i j) (by omega) (by omega)
  have f3 : Ieee.signed (!sg .f64 quart6) n' (j - min i j).toNat = -Ieee.signed (sg .f64 quart6) n' (j - min i j).toNat := by
    rw [signed_eq, signed_eq]
    cases sg .f64 quart6 <;> simp
  rw [← f1, ← f2, ← Int.sub_mul, Int.natAbs_mul, Int.natAbs_natCast] at h
  have h2 : (Ieee.signed (sg .f64 b) m (i - min i j).toNat + Ieee.signed (!sg .f64 quart6) n' (j - min i j).toNat).natAbs * 2 ^ (min i j - FloatKind.f64.format.leastPlace).toNat ≤ n * 2 ^ E * 2 ^ (FloatKind.f64.format.leastPlace - min i j).toNat := by
    rw [f3, ← Int.sub_eq_add_neg, show (FloatKind.f64.format.leastPlace - min i j).toNat = 0 by omega, Nat.pow_zero, Nat.mul_one]
    rw [← hE]; exact h
  obtain ⟨r, e, hr3, hm⟩ := nearest_leN .f64 (if Ieee.signed (sg .f64 b) m (i - min i j).toNat + Ieee.signed (!sg .f64 quart6) n' (j - min i j).toNat = 0 then (sg .f64 b && !sg .f64 quart6) else decide (Ieee.signed (sg .f64 b) m (i - min i j).toNat + Ieee.signed (!sg .f64 quart6) n' (j - min i j).toNat < 0)) _ _ n E hn53 h2
  rw [← hE] at hm
  refine ⟨_, rfl, ?_⟩
  have e' : FloatKind.f64.format.write (Ieee.Datum.number (if Ieee.signed (sg .f64 b) m (i - min i j).toNat + Ieee.signed (!sg .f64 quart6) n' (j - min i j).toNat = 0 then (sg .f64 b && !sg .f64 quart6) else decide (Ieee.signed (sg .f64 b) m (i - min i j).toNat + Ieee.signed (!sg .f64 quart6) n' (j - min i j).toNat < 0)) (Ieee.signed (sg .f64 b) m (i - min i j).toNat + Ieee.signed (!sg .f64 quart6) n' (j - min i j).toNat).natAbs (min i j)) = FloatKind.f64.format.word _ r := e
  have hgoal : ∀ c, c = FloatKind.f64.format.word (if Ieee.signed (sg .f64 b) m (i - min i j).toNat + Ieee.signed (!sg .f64 quart6) n' (j - min i j).toNat = 0 then (sg .f64 b && !sg .f64 quart6) else decide (Ieee.signed (sg .f64 b) m (i - min i j).toNat + Ieee.signed (!sg .f64 quart6) n' (j - min i j).toNat < 0)) r → rg .f64 c < FloatKind.f64.format.infRung ∧ mg FloatKind.f64.format.binade (rg .f64 c) ≤ n * Qt := by
    intro c hc
    rw [hc, (word_sg .f64 _ r hr3).2]
    refine ⟨?_, hm⟩
    rcases Nat.lt_or_eq_of_le hr3 with h3 | h3
    · exact h3
    · exfalso
      rw [h3, mg_top] at hm
      have h4 : 2 ^ topE .f64 ≤ 2 ^ 1074 := by
        rw [← qt_four]
        exact Nat.le_trans hm (Nat.mul_le_mul_right _ hn)
      have := (Nat.pow_le_pow_iff_right (show 1 < 2 by decide)).1 h4
      exact absurd this (by decide)
  exact hgoal _ e'

theorem sv_le_mg (k : FloatKind) (b : Nat) : sv k b ≤ (mg k.format.binade (rg k b) : Int) := by
  unfold sv
  split <;> omega

/-- What is left of turns is at most 1. -/
theorem frV_one {x : Nat} (h : Bd .f64 (some x) (52 + 1074)) : Bd .f64 (frV x) 1074 := by
  obtain ⟨_, h1⟩ := frac_bd h
  unfold frV
  split
  · rename_i hc
    obtain ⟨b, e, hb, hm⟩ := h1
    rw [e] at hc ⊢
    have h1n : nan .f64 b = false := (not_nan_iff .f64 b).2 (Nat.le_of_lt hb)
    refine bd_add_sv hb (by decide +kernel) (show 1074 < 2098 by decide) ?_
    have s1 : sv .f64 one6 = ((2 ^ 1074 : Nat) : Int) := by decide +kernel
    rw [s1]
    have hneg : sv .f64 b < 0 := by
      have hc2 : (FloatKind.f64.format.order b 0 == some .lt) = true := hc
      rw [order_sv .f64 b 0 h1n (by decide +kernel), show sv .f64 0 = 0 by decide +kernel, cmp_int] at hc2
      by_cases h2 : sv .f64 b < 0
      · exact h2
      · rw [if_neg h2] at hc2
        by_cases h3 : sv .f64 b = 0
        · rw [if_pos h3] at hc2; cases hc2
        · rw [if_neg h3] at hc2; cases hc2
    have hlo : -(mg FloatKind.f64.format.binade (rg .f64 b) : Int) ≤ sv .f64 b := by
      unfold sv
      split <;> omega
    generalize (2 : Nat) ^ 1074 = T at hm ⊢
    omega
  · exact h1

/-- Quarters taken off. -/
def qF (f : Option Nat) : Nat → Option Nat
  | 0 => f
  | j + 1 => ar .sub .f64 (qF f j) (some quart6)
/-- The quarter is J, and S is left. -/
structure PhIs (x J S : Nat) : Prop where
  is : qF (frV x) J = some S
  up : ∀ t, t < J → cm .geq .f64 (qF (frV x) t) (some quart6) = true
  fin : cm .geq .f64 (some S) (some quart6) = false
  rep : Rep .f64 (some S) S
  bd : Bd .f64 (some S) 1074
  le : J ≤ 4

theorem ph_ex {x : Nat} (h : Bd .f64 (some x) (52 + 1074)) : ∃ J S, PhIs x J S := by
  -- at most four quarters
  have key : ∀ n j : Nat, n + j = 4 → (∀ t, t < j → cm .geq .f64 (qF (frV x) t) (some quart6) = true) → (∃ b, qF (frV x) j = some b ∧ b < 2 ^ 64 ∧ rg .f64 b < FloatKind.f64.format.infRung ∧ mg FloatKind.f64.format.binade (rg .f64 b) ≤ 2 ^ 1074 ∧ sv .f64 b ≤ (n * Qt : Nat)) → ∃ J S, PhIs x J S := by
    intro n
    induction n with
    | zero =>
      intro j hj hup ⟨b, hb, hlt, hr, hm, hs⟩
      have hn : nan .f64 b = false := (not_nan_iff .f64 b).2 (Nat.le_of_lt hr)
      refine ⟨j, b, hb, hup, ?_, rep_some hlt hn, ⟨b, rfl, hr, hm⟩, by omega⟩
      show (FloatKind.f64.format.order b quart6 == some .gt || FloatKind.f64.format.order b quart6 == some .eq) = false
      rw [geB hn qt_nan, qt_sv]
      have := qt_pos
      exact decide_eq_false (by omega)
    | succ n ih =>
      intro j hj hup ⟨b, hb, hlt, hr, hm, hs⟩
      have hn : nan .f64 b = false := (not_nan_iff .f64 b).2 (Nat.le_of_lt hr)
      have hge : cm .geq .f64 (some b) (some quart6) = decide ((Qt : Int) ≤ sv .f64 b) := by
        show (FloatKind.f64.format.order b quart6 == some .gt || FloatKind.f64.format.order b quart6 == some .eq) = _
        rw [geB hn qt_nan, qt_sv]
      by_cases hq : (Qt : Int) ≤ sv .f64 b
      · rw [decide_eq_true hq] at hge
        have hd : (sv .f64 b - sv .f64 quart6).natAbs ≤ n * Qt := by
          rw [qt_sv]
          rw [Nat.add_mul, Nat.one_mul] at hs
          omega
        obtain ⟨r, hr1, hr2, hr3⟩ := sub_quart hr (by omega) hd
        have hlt2 : r < 2 ^ 64 := by
          have : floatBits .sub .f64 b quart6 = some r := hr1
          exact floatBits_lt this
        refine ih (j + 1) (by omega) (fun t ht => ?_) ⟨r, ?_, hlt2, hr2, ?_, ?_⟩
        · by_cases htj : t = j
          · subst htj; rw [hb]; exact hge
          · exact hup t (by omega)
        · show ar .sub .f64 (qF (frV x) j) (some quart6) = some r
          rw [hb]; exact hr1
        · rw [← qt_four]
          exact Nat.le_trans hr3 (Nat.mul_le_mul_right _ (by omega))
        · exact Int.le_trans (sv_le_mg .f64 r) (Int.ofNat_le.2 hr3)
      · rw [decide_eq_false hq] at hge
        exact ⟨j, b, hb, hup, hge, rep_some hlt hn, ⟨b, rfl, hr, hm⟩, by omega⟩
  obtain ⟨b, e, hr, hm⟩ := frV_one h
  refine key 4 0 rfl (fun t ht => absurd ht (by omega)) ⟨b, e, ?_, hr, hm, ?_⟩
  · have : ∃ c, frV x = some c ∧ c < 2 ^ 64 := by
      unfold frV at e ⊢
      split at e
      · rename_i hc
        rw [if_pos hc]
        refine ⟨b, e, ?_⟩
        obtain ⟨a, ha⟩ : ∃ a, ar .sub .f64 (some x) (some (fe (trI x))) = some a := by
          cases h0 : ar .sub .f64 (some x) (some (fe (trI x))) with
          | none => rw [h0] at e; cases e
          | some a => exact ⟨a, rfl⟩
        rw [ha] at e
        have e' : floatBits .add .f64 a one6 = some b := e
        exact floatBits_lt e'
      · rename_i hc
        rw [if_neg hc]
        refine ⟨b, e, ?_⟩
        have e' : floatBits .sub .f64 x (fe (trI x)) = some b := e
        exact floatBits_lt e'
    obtain ⟨c, hc, hl⟩ := this
    rw [e] at hc
    injection hc with hc
    rw [hc]; exact hl
  · have h1 := sv_le_mg .f64 b
    rw [qt_four]
    exact Int.le_trans h1 (Int.ofNat_le.2 hm)

/-- The parts of a phasor in a quarter, of cosine and sine. -/
def rePh (j : Nat) (c s : Option Nat) : Option Nat := if j = 1 then ar .sub .f64 (some 0) s else if j = 2 then ar .sub .f64 (some 0) c else if j = 3 then s else c
def imPh (j : Nat) (c s : Option Nat) : Option Nat := if j = 1 then c else if j = 2 then ar .sub .f64 (some 0) s else if j = 3 then ar .sub .f64 (some 0) c else s
end Flo
end Go.Proofs.Ytpebdcimbdbbmaa
