/-
  Rounding keeps lower bounds too; a sum's bound by the sum's worth; positive numbers. Conditions: those that each theorem names.
-/
import Derived.Test.YtpebdcimbdbbmaaBd
namespace Go.Proofs.Ytpebdcimbdbbmaa
namespace Flo
open Go

/-- The nearest word of what is at least 2^a (in least places). -/
theorem le_nearest (k : FloatKind) (s : Bool) (m : Nat) (p : Int) (a : Nat) (ha : a ≤ topE k) (h : 2 ^ (a + (k.format.leastPlace - p).toNat) ≤ m * 2 ^ (p - k.format.leastPlace).toNat) :
    ∃ r, k.format.nearest s m p = k.format.word s r ∧ r ≤ k.format.infRung ∧ 2 ^ a ≤ mg k.format.binade r := by
  unfold Ieee.Format.nearest
  have h0 : m ≠ 0 := fun hm => by
    subst hm
    rw [Nat.zero_mul] at h
    have := Nat.two_pow_pos (a + (k.format.leastPlace - p).toNat)
    omega
  rw [if_neg h0]
  simp only
  have hfb : k.format.binade = 2 ^ k.format.fractionBits := rfl
  have hlo : 2 ^ m.log2 ≤ m := Nat.log2_self_le h0
  have hhi : m < 2 ^ (m.log2 + 1) := Nat.lt_log2_self
  generalize hl : max (p + m.log2 - k.format.fractionBits) k.format.leastPlace = last
  generalize hu : (p - last).toNat = u
  generalize hd : (last - p).toNat = d
  generalize hq : (last - k.format.leastPlace).toNat = q
  generalize hu' : (p - k.format.leastPlace).toNat = u' at h
  generalize hd' : (k.format.leastPlace - p).toNat = d' at h
  rw [Nat.shiftLeft_eq]
  have hsum : u' + d = u + q + d' := by omega
  have hk2 : Ieee.Toward.even.cut s (m * 2 ^ u) d ≤ 2 * k.format.binade := by
    refine cut_le ?_
    have e : 2 * k.format.binade = 2 ^ (k.format.fractionBits + 1) := by rw [hfb, Nat.pow_succ, Nat.mul_comm]
    rw [e, ← Nat.pow_add]
    have h1 : m * 2 ^ u ≤ 2 ^ (m.log2 + 1) * 2 ^ u := Nat.mul_le_mul_right _ (Nat.le_of_lt hhi)
    rw [← Nat.pow_add] at h1
    exact Nat.le_trans h1 (Nat.pow_le_pow_right (by decide) (by omega))
  have hk1 : q = 0 ∨ k.format.binade ≤ Ieee.Toward.even.cut s (m * 2 ^ u) d := by
    by_cases hq0 : q = 0
    · exact .inl hq0
    · right
      refine le_cut ?_
      rw [hfb, ← Nat.pow_add]
      have h1 : 2 ^ m.log2 * 2 ^ u ≤ m * 2 ^ u := Nat.mul_le_mul_right _ hlo
      rw [← Nat.pow_add] at h1
      exact Nat.le_trans (Nat.pow_le_pow_right (by decide) (by omega)) h1
  have hmg := mg_at (q := q) (binade_pos k) hk1 hk2
  have hbig : 2 ^ a ≤ Ieee.Toward.even.cut s (m * 2 ^ u) d * 2 ^ q := by
    by_cases hqa : q ≤ a
    · have hka : 2 ^ (a - q) ≤ Ieee.Toward.even.cut s (m * 2 ^ u) d := by
        refine le_cut ?_
        rw [← Nat.pow_add]
        have h1 : 2 ^ (a + d') * 2 ^ d ≤ m * 2 ^ u' * 2 ^ d := Nat.mul_le_mul_right _ h
        rw [Nat.mul_assoc, ← Nat.pow_add, ← Nat.pow_add, hsum] at h1
        have h2 : 2 ^ (a - q + d) * 2 ^ (q + d') ≤ m * 2 ^ u * 2 ^ (q + d') := by
          rw [Nat.mul_assoc, ← Nat.pow_add, ← Nat.pow_add, show u + (q + d') = u + q + d' by omega, show a - q + d + (q + d') = a + d' + d by omega]
          exact h1
        exact Nat.le_of_mul_le_mul_right h2 (Nat.two_pow_pos _)
      have h3 := Nat.mul_le_mul_right (2 ^ q) hka
      rw [← Nat.pow_add, show a - q + q = a by omega] at h3
      exact h3
    · rcases hk1 with h1 | h1
      · omega
      · have h2 : 1 ≤ Ieee.Toward.even.cut s (m * 2 ^ u) d := Nat.le_trans (binade_pos k) h1
        exact Nat.le_trans (Nat.pow_le_pow_right (by decide) (by omega)) (Nat.le_mul_of_pos_left _ h2)
  refine ⟨_, rfl, Nat.min_le_right _ _, ?_⟩
  rcases Nat.le_total (q * k.format.binade + Ieee.Toward.even.cut s (m * 2 ^ u) d) k.format.infRung with h1 | h1
  · rw [Nat.min_eq_left h1, hmg]
    exact hbig
  · rw [Nat.min_eq_right h1, mg_top]
    exact Nat.pow_le_pow_right (by decide) ha

/-- What is told is a finite positive number, at least 2^c and at most 2^a least places. -/
structure Ps (k : FloatKind) (v : Option Nat) (c a : Nat) : Prop where
  ex : ∃ b, v = some b ∧ sg k b = false ∧ rg k b < k.format.infRung ∧ 2 ^ c ≤ mg k.format.binade (rg k b) ∧ mg k.format.binade (rg k b) ≤ 2 ^ a
theorem Ps.bd {k : FloatKind} {v : Option Nat} {c a : Nat} (h : Ps k v c a) : Bd k v a := by
  obtain ⟨b, e, _, h1, _, h2⟩ := h
  exact ⟨b, e, h1, h2⟩
theorem Ps.lo {k : FloatKind} {v : Option Nat} {c a : Nat} (h : Ps k v c a) : Lo k v c := by
  obtain ⟨b, e, _, h1, h2, _⟩ := h
  exact ⟨b, e, h1, h2⟩
theorem Ps.mono {k : FloatKind} {v : Option Nat} {c a c' a' : Nat} (h : Ps k v c a) (hc : c' ≤ c) (ha : a ≤ a') : Ps k v c' a' := by
  obtain ⟨b, e, hs, h1, h2, h3⟩ := h
  exact ⟨b, e, hs, h1, Nat.le_trans (Nat.pow_le_pow_right (by decide) hc) h2, Nat.le_trans h3 (Nat.pow_le_pow_right (by decide) ha)⟩
theorem ps_nearest {k : FloatKind} {m : Nat} {p : Int} {c a : Nat} (ha : a < topE k) (h : m * 2 ^ (p - k.format.leastPlace).toNat ≤ 2 ^ (a + (k.format.leastPlace - p).toNat))
    (h2 : 2 ^ (c + (k.format.leastPlace - p).toNat) ≤ m * 2 ^ (p - k.format.leastPlace).toNat) : Ps k (some (k.format.nearest false m p)) c a := by
  obtain ⟨b, e, hr, hm⟩ := bd_nearest (s := false) ha h
  injection e with e
  have hca : c ≤ topE k := by
    have := (Nat.pow_le_pow_iff_right (show 1 < 2 by decide)).1 (Nat.le_trans h2 h)
    omega
  obtain ⟨r, e2, hr2, hm2⟩ := le_nearest k false m p c hca h2
  have hw := word_sg k false r hr2
  rw [← e2, e] at hw
  exact ⟨b, by rw [e], hw.1, hr, by rw [hw.2]; exact hm2, hm⟩

theorem ps_mul {k : FloatKind} {v u : Option Nat} {c a c' a' c2 a2 : Nat} (hv : Ps k v c a) (hu : Ps k u c' a') (ha : a2 < topE k) (h1 : a + a' ≤ a2 + oneE k) (h2 : c2 + oneE k ≤ c + c') : Ps k (ar .mul k v u) c2 a2 := by
  obtain ⟨b, rfl, s1, r1, l1, u1⟩ := hv
  obtain ⟨d, rfl, s2, r2, l2, u2⟩ := hu
  obtain ⟨m, i, hr, hi, e1⟩ := read_num k b r1
  obtain ⟨n, j, hr2, hj, e2⟩ := read_num k d r2
  rw [← e1] at l1 u1
  rw [← e2] at l2 u2
  show Ps k (k.format.mul b d) c2 a2
  unfold Ieee.Format.mul
  rw [hr, hr2, s1, s2]
  have hlp := oneE_lp k
  have h3 := Nat.mul_le_mul u1 u2
  have h4 := Nat.mul_le_mul l1 l2
  rw [← Nat.pow_add, Nat.mul_mul_mul_comm, ← Nat.pow_add] at h3
  rw [← Nat.pow_add, Nat.mul_mul_mul_comm, ← Nat.pow_add] at h4
  have h5 : m * n * 2 ^ ((i - k.format.leastPlace).toNat + (j - k.format.leastPlace).toNat) ≤ 2 ^ (a2 + oneE k) := Nat.le_trans h3 (Nat.pow_le_pow_right (by decide) h1)
  have h6 : 2 ^ (c2 + oneE k) ≤ m * n * 2 ^ ((i - k.format.leastPlace).toNat + (j - k.format.leastPlace).toNat) := Nat.le_trans (Nat.pow_le_pow_right (by decide) h2) h4
  generalize hx : (i + j - k.format.leastPlace).toNat = x
  generalize hy : (k.format.leastPlace - (i + j)).toNat = y
  have hxy : (i - k.format.leastPlace).toNat + (j - k.format.leastPlace).toNat + y = x + oneE k := by omega
  refine ps_nearest ha ?_ ?_
  · rw [hx, hy]
    have h7 := Nat.mul_le_mul_right (2 ^ y) h5
    rw [Nat.mul_assoc, ← Nat.pow_add, ← Nat.pow_add, hxy, Nat.pow_add 2 x, ← Nat.mul_assoc, show a2 + oneE k + y = a2 + y + oneE k by omega, Nat.pow_add 2 (a2 + y)] at h7
    exact Nat.le_of_mul_le_mul_right h7 (Nat.two_pow_pos _)
  · rw [hx, hy]
    have h7 := Nat.mul_le_mul_right (2 ^ y) h6
    rw [Nat.mul_assoc, ← Nat.pow_add, ← Nat.pow_add, hxy, Nat.pow_add 2 x, ← Nat.mul_assoc, show c2 + oneE k + y = c2 + y + oneE k by omega, Nat.pow_add 2 (c2 + y)] at h7
    exact Nat.le_of_mul_le_mul_right h7 (Nat.two_pow_pos _)

/-- The worth of a read number. -/
theorem sv_read {k : FloatKind} {b m : Nat} {i : Int} (hi : k.format.leastPlace ≤ i) (e : m * 2 ^ (i - k.format.leastPlace).toNat = mg k.format.binade (rg k b)) {base : Int} (hb : k.format.leastPlace ≤ base) (hbi : base ≤ i) :
    Ieee.signed (sg k b) m (i - base).toNat * ((2 ^ (base - k.format.leastPlace).toNat : Nat) : Int) = sv k b := by
  rw [sv_num e, signed_mul]
  congr 1
  omega

/-- A sum's bound, by the worth. -/
theorem bd_add_sv {k : FloatKind} {b c a : Nat} (hb : rg k b < k.format.infRung) (hc : rg k c < k.format.infRung) (ha : a < topE k) (h : (sv k b + sv k c).natAbs ≤ 2 ^ a) : Bd k (ar .add k (some b) (some c)) a := by
  obtain ⟨m, i, hr, hi, e1⟩ := read_num k b hb
  obtain ⟨n, j, hr2, hj, e2⟩ := read_num k c hc
  show Bd k (k.format.add b c) a
  unfold Ieee.Format.add
  rw [hr, hr2]
  refine bd_nearest ha ?_
  rw [show (k.format.leastPlace - min i j).toNat = 0 by omega, Nat.add_zero]
  have f1 := sv_read (b := b) hi e1 (base := min i j) (by omega) (by omega)
  have f2 := sv_read (b := c) hj e2 (base := min i j) (by omega) (by omega)
  rw [← f1, ← f2, ← Int.add_mul, Int.natAbs_mul, Int.natAbs_natCast] at h
  exact h
theorem bd_sub_sv {k : FloatKind} {b c a : Nat} (hb : rg k b < k.format.infRung) (hc : rg k c < k.format.infRung) (ha : a < topE k) (h : (sv k b - sv k c).natAbs ≤ 2 ^ a) : Bd k (ar .sub k (some b) (some c)) a := by
  obtain ⟨m, i, hr, hi, e1⟩ := read_num k b hb
  obtain ⟨n, j, hr2, hj, e2⟩ := read_num k c hc
  show Bd k (k.format.sub b c) a
  unfold Ieee.Format.sub
  rw [hr, hr2]
  refine bd_nearest ha ?_
  rw [show (k.format.leastPlace - min i j).toNat = 0 by omega, Nat.add_zero]
  have f1 := sv_read (b := b) hi e1 (base := min i j) (by omega) (by omega)
  have f2 := sv_read (b := c) hj e2 (base := min i j) (by omega) (by omega)
  have f3 : Ieee.signed (!sg k c) n (j - min i j).toNat = -Ieee.signed (sg k c) n (j - min i j).toNat := by
    rw [signed_eq, signed_eq]
    cases sg k c <;> simp
  rw [f3, ← Int.sub_eq_add_neg]
  rw [← f1, ← f2, ← Int.sub_mul, Int.natAbs_mul, Int.natAbs_natCast] at h
  exact h

/-- A sum of positive numbers. -/
theorem ps_add {k : FloatKind} {v u : Option Nat} {c a c' : Nat} (hv : Ps k v c a) (hu : Ps k u c' a) (ha : a + 1 < topE k) : Ps k (ar .add k v u) c' (a + 1) := by
  obtain ⟨b, rfl, s1, r1, l1, u1⟩ := hv
  obtain ⟨d, rfl, s2, r2, l2, u2⟩ := hu
  obtain ⟨m, i, hr, hi, e1⟩ := read_num k b r1
  obtain ⟨n, j, hr2, hj, e2⟩ := read_num k d r2
  show Ps k (k.format.add b d) c' (a + 1)
  unfold Ieee.Format.add
  rw [hr, hr2]
  have f1 := sv_read (b := b) hi e1 (base := min i j) (by omega) (by omega)
  have f2 := sv_read (b := d) hj e2 (base := min i j) (by omega) (by omega)
  have g1 : sv k b = (mg k.format.binade (rg k b) : Int) := by unfold sv; rw [s1]; rfl
  have g2 : sv k d = (mg k.format.binade (rg k d) : Int) := by unfold sv; rw [s2]; rfl
  have p2 : 0 < 2 ^ c' := Nat.two_pow_pos _
  have key : (Ieee.signed (sg k b) m (i - min i j).toNat + Ieee.signed (sg k d) n (j - min i j).toNat) * ((2 ^ (min i j - k.format.leastPlace).toNat : Nat) : Int) = ((mg k.format.binade (rg k b) + mg k.format.binade (rg k d) : Nat) : Int) := by
    rw [Int.add_mul, f1, f2, g1, g2]; rfl
  have hpos : 0 < Ieee.signed (sg k b) m (i - min i j).toNat + Ieee.signed (sg k d) n (j - min i j).toNat := by
    rcases Int.lt_or_le 0 (Ieee.signed (sg k b) m (i - min i j).toNat + Ieee.signed (sg k d) n (j - min i j).toNat) with h | h
    · exact h
    · exfalso
      have hX : (0 : Int) ≤ ((2 ^ (min i j - k.format.leastPlace).toNat : Nat) : Int) := Int.natCast_nonneg _
      have := Int.mul_nonneg (show 0 ≤ -(Ieee.signed (sg k b) m (i - min i j).toNat + Ieee.signed (sg k d) n (j - min i j).toNat) by omega) hX
      rw [Int.neg_mul, key] at this
      omega
  generalize hT : Ieee.signed (sg k b) m (i - min i j).toNat + Ieee.signed (sg k d) n (j - min i j).toNat = T at key hpos
  have hs : (if T = 0 then (sg k b && sg k d) else decide (T < 0)) = false := by
    rw [if_neg (by omega)]; exact decide_eq_false (by omega)
  have hval : T.natAbs * 2 ^ (min i j - k.format.leastPlace).toNat = mg k.format.binade (rg k b) + mg k.format.binade (rg k d) := by
    have := congrArg Int.natAbs key
    rw [Int.natAbs_mul, Int.natAbs_natCast, Int.natAbs_natCast] at this
    exact this
  have e0 : (k.format.leastPlace - min i j).toNat = 0 := by omega
  show Ps k (some (k.format.nearest (if Ieee.signed (sg k b) m (i - min i j).toNat + Ieee.signed (sg k d) n (j - min i j).toNat = 0 then (sg k b && sg k d) else decide (Ieee.signed (sg k b) m (i - min i j).toNat + Ieee.signed (sg k d) n (j - min i j).toNat < 0)) (Ieee.signed (sg k b) m (i - min i j).toNat + Ieee.signed (sg k d) n (j - min i j).toNat).natAbs (min i j))) c' (a + 1)
  rw [hT, hs]
  refine ps_nearest ha ?_ ?_
  · rw [hval, e0, Nat.add_zero, Nat.pow_succ]; omega
  · rw [hval, e0, Nat.add_zero]; omega

/-- A positive number halved. -/
theorem quot_ge {D n T : Nat} (hn : 0 < n) (h : T * n ≤ D) : 2 * T ≤ 2 * (D / n) + (D % n != 0).toNat := by
  have := (Nat.le_div_iff_mul_le hn).2 h
  omega
theorem ps_quo {k : FloatKind} {v u : Option Nat} {c a c' a' c2 a2 : Nat} (hv : Ps k v c a) (hu : Ps k u c' a') (ha : a2 < topE k) (h1 : a + oneE k ≤ a2 + c') (h2 : c2 + a' ≤ c + oneE k) : Ps k (ar .quo k v u) c2 a2 := by
  have hB := bd_quo hv.bd hu.lo ha h1
  obtain ⟨b, rfl, s1, r1, l1, u1⟩ := hv
  obtain ⟨d, rfl, s2, r2, l2, u2⟩ := hu
  obtain ⟨m, i, hr, hi, e1⟩ := read_num k b r1
  obtain ⟨n, j, hr2, hj, e2⟩ := read_num k d r2
  rw [← e1] at l1 u1
  rw [← e2] at l2 u2
  obtain ⟨q, hq1, hq2, hq3⟩ := hB
  have hq0 := hq1
  have hdiv : ar .quo k (some b) (some d) = k.format.div b d := rfl
  rw [hdiv] at hq1 ⊢
  unfold Ieee.Format.div at hq1
  rw [hr, hr2, s1, s2] at hq1
  have hn0 : n ≠ 0 := fun h => by
    subst h
    rw [Nat.zero_mul] at l2
    have := Nat.two_pow_pos c'
    omega
  have hm0 : m ≠ 0 := fun h => by
    subst h
    rw [Nat.zero_mul] at l1
    have := Nat.two_pow_pos c
    omega
  unfold Ieee.Datum.quotient at hq1
  simp only [if_neg hn0] at hq1
  have hlp := oneE_lp k
  have lm : c ≤ m.log2 + (i - k.format.leastPlace).toNat := by
    have h3 : m * 2 ^ (i - k.format.leastPlace).toNat < 2 ^ (m.log2 + 1) * 2 ^ (i - k.format.leastPlace).toNat := Nat.mul_lt_mul_of_pos_right Nat.lt_log2_self (Nat.two_pow_pos _)
    rw [← Nat.pow_add] at h3
    have h4 := (Nat.pow_lt_pow_iff_right (show 1 < 2 by decide)).1 (Nat.lt_of_le_of_lt l1 h3)
    omega
  have ln : n.log2 + (j - k.format.leastPlace).toNat ≤ a' := by
    have h3 := Nat.le_trans (Nat.mul_le_mul_right (2 ^ (j - k.format.leastPlace).toNat) (Nat.log2_self_le hn0)) u2
    rw [← Nat.pow_add] at h3
    exact (Nat.pow_le_pow_iff_right (by decide)).1 h3
  generalize hw : k.format.fractionBits + 2 + n.log2 - m.log2 = w at hq1
  generalize hI : (i - k.format.leastPlace).toNat = I at l1 lm u1
  generalize hJ : (j - k.format.leastPlace).toNat = J at u2 ln l2
  have hfin : c2 ≤ topE k := by
    have h5 := (Nat.pow_le_pow_iff_right (show 1 < 2 by decide)).1 (Nat.le_trans l1 u1)
    have h6 := (Nat.pow_le_pow_iff_right (show 1 < 2 by decide)).1 (Nat.le_trans l2 u2)
    omega
  have hlow : 2 ^ (c2 + (k.format.leastPlace - (i - j - w - 1)).toNat) ≤ (2 * (m <<< w / n) + (m <<< w % n != 0).toNat) * 2 ^ (i - j - w - 1 - k.format.leastPlace).toNat := by
    generalize hx : (i - j - w - 1 - k.format.leastPlace).toNat = x
    generalize hy : (k.format.leastPlace - (i - j - w - 1)).toNat = y
    rw [Nat.shiftLeft_eq]
    have key : 2 ^ c * (n * 2 ^ J) ≤ m * 2 ^ I * 2 ^ a' := Nat.mul_le_mul l1 u2
    by_cases hT : 1 + x ≤ c2 + y
    · have hq : 2 ^ (c2 + y - x - 1) * n ≤ m * 2 ^ w := by
        have h3 : 2 ^ (c2 + y - x - 1) * n * 2 ^ (I + a') ≤ m * 2 ^ w * 2 ^ (I + a') := by
          have h4 : 2 ^ c * (n * 2 ^ J) * 2 ^ w ≤ m * 2 ^ I * 2 ^ a' * 2 ^ w := Nat.mul_le_mul_right _ key
          have g1 : m * 2 ^ w * 2 ^ (I + a') = m * 2 ^ I * 2 ^ a' * 2 ^ w := by
            rw [Nat.pow_add]; simp only [Nat.mul_assoc, Nat.mul_comm, Nat.mul_left_comm]
          have g2 : 2 ^ c * (n * 2 ^ J) * 2 ^ w = n * 2 ^ (c + J + w) := by
            rw [Nat.pow_add, Nat.pow_add]; simp only [Nat.mul_assoc, Nat.mul_comm, Nat.mul_left_comm]
          have g3 : 2 ^ (c2 + y - x - 1) * n * 2 ^ (I + a') = n * 2 ^ (c2 + y - x - 1 + I + a') := by
            rw [Nat.pow_add, Nat.pow_add _ (c2 + y - x - 1 + I), Nat.pow_add]; simp only [Nat.mul_assoc, Nat.mul_comm, Nat.mul_left_comm]
          rw [g1, g3]
          rw [g2] at h4
          exact Nat.le_trans (Nat.mul_le_mul_left _ (Nat.pow_le_pow_right (by decide) (by omega))) h4
        exact Nat.le_of_mul_le_mul_right h3 (Nat.two_pow_pos _)
      have h4 := quot_ge (Nat.pos_of_ne_zero hn0) hq
      have h5 := Nat.mul_le_mul_right (2 ^ x) h4
      refine Nat.le_trans ?_ h5
      have e4 : 2 * 2 ^ (c2 + y - x - 1) * 2 ^ x = 2 ^ (c2 + y) := by
        rw [show 2 * 2 ^ (c2 + y - x - 1) = 2 ^ (c2 + y - x - 1 + 1) by rw [Nat.pow_succ, Nat.mul_comm], ← Nat.pow_add]
        congr 1
        omega
      rw [e4]
      exact Nat.le_refl _
    · -- the quotient is at least 1 unit: 2^(w + log m - log n) >= 1
      have h3 : 2 ^ 0 * n ≤ m * 2 ^ w := by
        have h4 : n < 2 ^ (n.log2 + 1) := Nat.lt_log2_self
        have h5 := Nat.mul_le_mul_right (2 ^ w) (Nat.log2_self_le hm0)
        rw [← Nat.pow_add] at h5
        have h6 : 2 ^ (n.log2 + 1) ≤ 2 ^ (m.log2 + w) := Nat.pow_le_pow_right (by decide) (by omega)
        rw [Nat.pow_zero, Nat.one_mul]
        omega
      have h4 := quot_ge (Nat.pos_of_ne_zero hn0) h3
      have h5 := Nat.mul_le_mul_right (2 ^ x) h4
      refine Nat.le_trans ?_ h5
      rw [Nat.pow_zero, Nat.mul_one, Nat.mul_comm, ← Nat.pow_succ]
      exact Nat.pow_le_pow_right (by decide) (by omega)
  obtain ⟨r, e2, hr2, hm2⟩ := le_nearest k false _ _ c2 hfin hlow
  have hq1' : some (k.format.nearest false (2 * (m <<< w / n) + (m <<< w % n != 0).toNat) (i - j - w - 1)) = some q := hq1
  injection hq1' with hq1'
  have hwd := word_sg k false r hr2
  rw [← e2, hq1'] at hwd
  exact ⟨q, by rw [← hdiv]; exact hq0, hwd.1, hq2, by rw [hwd.2]; exact hm2, hq3⟩
end Flo
end Go.Proofs.Ytpebdcimbdbbmaa
