/-
  Rounding keeps bounds: what is at most a power of two stays so. Bounds of sums, differences, products, quotients; what is bounded fits a float32. Conditions: those that each theorem names.
-/
import Derived.Test.YtpebdcimbdbbmaaVal
namespace Go.Proofs.Ytpebdcimbdbbmaa
namespace Flo
open Go

theorem cut_le {neg : Bool} {n d N : Nat} (h : n ≤ N * 2 ^ d) : Ieee.Toward.even.cut neg n d ≤ N := by
  unfold Ieee.Toward.cut
  simp only [Nat.shiftLeft_eq, Nat.one_mul]
  have hlt : n < 2 ^ (n.log2 + 1) := Nat.lt_log2_self
  by_cases hd : d ≤ n.log2 + 2
  · rw [Nat.min_eq_left hd]
    have hp : 0 < 2 ^ d := Nat.two_pow_pos _
    generalize 2 ^ d = g at *
    have e := Nat.div_add_mod n g
    have hm := Nat.mod_lt n hp
    have hq : n / g ≤ N := Nat.div_le_of_le_mul (by rw [Nat.mul_comm]; exact h)
    rcases Nat.lt_or_eq_of_le hq with h1 | h1
    · have : ∀ b : Bool, b.toNat ≤ 1 := fun b => by cases b <;> decide
      have := this (decide (g < 2 * (n % g)) || g == 2 * (n % g) && n / g % 2 == 1)
      omega
    · rw [h1, Nat.mul_comm] at e
      have hr : n % g = 0 := by omega
      have hg : (g == 0) = false := beq_eq_false_iff_ne.2 (by omega)
      rw [hr, h1]
      simp [hg]
  · rw [Nat.min_eq_right (by omega)]
    have hp : 0 < 2 ^ (n.log2 + 2) := Nat.two_pow_pos _
    have h2 : 2 ^ (n.log2 + 2) = 2 * 2 ^ (n.log2 + 1) := by rw [Nat.pow_succ, Nat.mul_comm]
    rw [Nat.div_eq_of_lt (by omega), Nat.mod_eq_of_lt (by omega)]
    have h3 : decide (2 ^ (n.log2 + 2) < 2 * n) = false := decide_eq_false (by omega)
    have h4 : (2 ^ (n.log2 + 2) == 2 * n) = false := beq_eq_false_iff_ne.2 (by omega)
    simp [h3, h4]

theorem le_cut {neg : Bool} {n d N : Nat} (h : N * 2 ^ d ≤ n) : N ≤ Ieee.Toward.even.cut neg n d := by
  unfold Ieee.Toward.cut
  simp only [Nat.shiftLeft_eq, Nat.one_mul]
  have hlt : n < 2 ^ (n.log2 + 1) := Nat.lt_log2_self
  by_cases hd : d ≤ n.log2 + 2
  · rw [Nat.min_eq_left hd]
    exact Nat.le_trans ((Nat.le_div_iff_mul_le (Nat.two_pow_pos _)).2 h) (Nat.le_add_right _ _)
  · have h1 : 2 ^ (n.log2 + 1) ≤ 2 ^ d := Nat.pow_le_pow_right (by decide) (by omega)
    rcases Nat.eq_zero_or_pos N with h0 | h0
    · rw [h0]; exact Nat.zero_le _
    · exact absurd (Nat.lt_of_lt_of_le hlt (Nat.le_trans h1 (Nat.le_trans (Nat.le_mul_of_pos_left (2 ^ d) h0) h))) (Nat.lt_irrefl _)

/-- The nearest word of what is at most 2^a (in least places). -/
theorem nearest_le (k : FloatKind) (s : Bool) (m : Nat) (p : Int) (a : Nat) (h : m * 2 ^ (p - k.format.leastPlace).toNat ≤ 2 ^ (a + (k.format.leastPlace - p).toNat)) :
    ∃ r, k.format.nearest s m p = k.format.word s r ∧ r ≤ k.format.infRung ∧ mg k.format.binade r ≤ 2 ^ a := by
  unfold Ieee.Format.nearest
  by_cases h0 : m = 0
  · rw [if_pos h0]
    refine ⟨0, rfl, Nat.zero_le _, ?_⟩
    unfold mg; rw [if_pos (binade_pos k)]; exact Nat.zero_le _
  · rw [if_neg h0]
    simp only
    have hfb : k.format.binade = 2 ^ k.format.fractionBits := rfl
    have hlo : 2 ^ m.log2 ≤ m := Nat.log2_self_le h0
    have hhi : m < 2 ^ (m.log2 + 1) := Nat.lt_log2_self
    have hlog : m.log2 + (p - k.format.leastPlace).toNat ≤ a + (k.format.leastPlace - p).toNat := by
      have h1 : 2 ^ m.log2 * 2 ^ (p - k.format.leastPlace).toNat ≤ 2 ^ (a + (k.format.leastPlace - p).toNat) := Nat.le_trans (Nat.mul_le_mul_right _ hlo) h
      rw [← Nat.pow_add] at h1
      exact (Nat.pow_le_pow_iff_right (by decide)).1 h1
    generalize hl : max (p + m.log2 - k.format.fractionBits) k.format.leastPlace = last
    generalize hu : (p - last).toNat = u
    generalize hd : (last - p).toNat = d
    generalize hq : (last - k.format.leastPlace).toNat = q
    generalize hu' : (p - k.format.leastPlace).toNat = u' at h hlog
    generalize hd' : (k.format.leastPlace - p).toNat = d' at h hlog
    rw [Nat.shiftLeft_eq]
    have hqa : q ≤ a := by omega
    have hsum : u' + d = u + q + d' := by omega
    -- the kept digits
    have hk2 : Ieee.Toward.even.cut s (m * 2 ^ u) d ≤ 2 * k.format.binade := by
      refine cut_le ?_
      have e : 2 * k.format.binade = 2 ^ (k.format.fractionBits + 1) := by rw [hfb, Nat.pow_succ, Nat.mul_comm]
      rw [e, ← Nat.pow_add]
      have h1 : m * 2 ^ u ≤ 2 ^ (m.log2 + 1) * 2 ^ u := Nat.mul_le_mul_right _ (Nat.le_of_lt hhi)
      rw [← Nat.pow_add] at h1
      exact Nat.le_trans h1 (Nat.pow_le_pow_right (by decide) (by omega))
    have hk1 : q = 0 ∨ k.format.binade ≤ Ieee.Toward.even.cut s (m * 2 ^ u) d := by
      by_cases hq0 : q = 0
      · exact .inl hq0
      · right
        refine le_cut ?_
        rw [hfb, ← Nat.pow_add]
        have h1 : 2 ^ m.log2 * 2 ^ u ≤ m * 2 ^ u := Nat.mul_le_mul_right _ hlo
        rw [← Nat.pow_add] at h1
        exact Nat.le_trans (Nat.pow_le_pow_right (by decide) (by omega)) h1
    have hka : Ieee.Toward.even.cut s (m * 2 ^ u) d ≤ 2 ^ (a - q) := by
      refine cut_le ?_
      rw [← Nat.pow_add]
      have h1 : m * 2 ^ u' * 2 ^ d ≤ 2 ^ (a + d') * 2 ^ d := Nat.mul_le_mul_right _ h
      rw [Nat.mul_assoc, ← Nat.pow_add, ← Nat.pow_add, hsum] at h1
      have h2 : m * 2 ^ u * 2 ^ (q + d') ≤ 2 ^ (a - q + d) * 2 ^ (q + d') := by
        rw [Nat.mul_assoc, ← Nat.pow_add, ← Nat.pow_add, show u + (q + d') = u + q + d' by omega, show a - q + d + (q + d') = a + d' + d by omega]
        exact h1
      exact Nat.le_of_mul_le_mul_right h2 (Nat.two_pow_pos _)
    have hmg := mg_at (q := q) (binade_pos k) hk1 hk2
    refine ⟨_, rfl, Nat.min_le_right _ _, ?_⟩
    refine Nat.le_trans (mg_le (binade_pos k) (Nat.min_le_left _ _)) ?_
    rw [hmg]
    refine Nat.le_trans (Nat.mul_le_mul_right _ hka) ?_
    rw [← Nat.pow_add]
    exact Nat.pow_le_pow_right (by decide) (by omega)

/-- What is told is a finite number, at most 2^a least places. -/
def Bd (k : FloatKind) (v : Option Nat) (a : Nat) : Prop := ∃ b, v = some b ∧ rg k b < k.format.infRung ∧ mg k.format.binade (rg k b) ≤ 2 ^ a

theorem Bd.mono {k : FloatKind} {v : Option Nat} {a c : Nat} (h : Bd k v a) (hc : a ≤ c) : Bd k v c := by
  obtain ⟨b, e, h1, h2⟩ := h
  exact ⟨b, e, h1, Nat.le_trans h2 (Nat.pow_le_pow_right (by decide) hc)⟩

/-- The exponent of infinity, in least places. -/
def topE (k : FloatKind) : Nat := match k with | .f32 => 277 | .f64 => 2098
theorem mg_top (k : FloatKind) : mg k.format.binade k.format.infRung = 2 ^ topE k := by cases k <;> decide +kernel

theorem bd_nearest {k : FloatKind} {s : Bool} {m : Nat} {p : Int} {a : Nat} (ha : a < topE k) (h : m * 2 ^ (p - k.format.leastPlace).toNat ≤ 2 ^ (a + (k.format.leastPlace - p).toNat)) : Bd k (some (k.format.nearest s m p)) a := by
  obtain ⟨r, e, hr, hm⟩ := nearest_le k s m p a h
  have hr' : r < k.format.infRung := by
    rcases Nat.lt_or_eq_of_le hr with h1 | h1
    · exact h1
    · subst h1
      rw [mg_top] at hm
      have := (Nat.pow_le_pow_iff_right (show 1 < 2 by decide)).1 hm
      omega
  refine ⟨_, rfl, ?_⟩
  rw [e, (word_sg k s r hr).2]
  exact ⟨hr', hm⟩

/-- What a bounded word is read as. -/
theorem Bd.read {k : FloatKind} {v : Option Nat} {a : Nat} (h : Bd k v a) : ∃ b m e, v = some b ∧ k.format.read b = .number (sg k b) m e ∧ k.format.leastPlace ≤ e ∧ m * 2 ^ (e - k.format.leastPlace).toNat = mg k.format.binade (rg k b) ∧ m * 2 ^ (e - k.format.leastPlace).toNat ≤ 2 ^ a := by
  obtain ⟨b, rfl, h1, h2⟩ := h
  obtain ⟨m, e, h3, h4, h5⟩ := read_num k b h1
  exact ⟨b, m, e, rfl, h3, h4, h5, by rw [h5]; exact h2⟩

theorem signed_abs (s : Bool) (m u : Nat) : (Ieee.signed s m u).natAbs = m * 2 ^ u := by
  rw [signed_eq]
  cases s
  · exact Int.natAbs_natCast _
  · exact (Int.natAbs_neg _).trans (Int.natAbs_natCast _)

theorem pow_split {p i lp : Int} (hi : lp ≤ i) (hp : i ≤ p) : (p - lp).toNat = (p - i).toNat + (i - lp).toNat := by omega

/-- A sum of bounded numbers, exactly. -/
theorem sum_bd {k : FloatKind} {s t : Bool} {m n : Nat} {i j : Int} {a : Nat} (hi : k.format.leastPlace ≤ i) (hj : k.format.leastPlace ≤ j) (h1 : m * 2 ^ (i - k.format.leastPlace).toNat ≤ 2 ^ a) (h2 : n * 2 ^ (j - k.format.leastPlace).toNat ≤ 2 ^ a) :
    (Ieee.signed s m (i - min i j).toNat + Ieee.signed t n (j - min i j).toNat).natAbs * 2 ^ (min i j - k.format.leastPlace).toNat ≤ 2 ^ (a + 1 + (k.format.leastPlace - min i j).toNat) := by
  have hb : k.format.leastPlace ≤ min i j := by omega
  rw [show (k.format.leastPlace - min i j).toNat = 0 by omega, Nat.add_zero]
  have e1 := signed_abs s m (i - min i j).toNat
  have e2 := signed_abs t n (j - min i j).toNat
  have h3 := Int.natAbs_add_le (Ieee.signed s m (i - min i j).toNat) (Ieee.signed t n (j - min i j).toNat)
  rw [e1, e2] at h3
  rw [pow_split hb (show min i j ≤ i by omega), Nat.pow_add, ← Nat.mul_assoc] at h1
  rw [pow_split hb (show min i j ≤ j by omega), Nat.pow_add, ← Nat.mul_assoc] at h2
  have h4 := Nat.mul_le_mul_right (2 ^ (min i j - k.format.leastPlace).toNat) h3
  rw [Nat.add_mul] at h4
  rw [Nat.pow_succ]
  omega

theorem bd_add {k : FloatKind} {v u : Option Nat} {a : Nat} (hv : Bd k v a) (hu : Bd k u a) (ha : a + 1 < topE k) : Bd k (ar .add k v u) (a + 1) := by
  obtain ⟨b, m, i, rfl, hr, hi, _, h1⟩ := hv.read
  obtain ⟨c, n, j, rfl, hr2, hj, _, h2⟩ := hu.read
  show Bd k (floatBits .add k b c) (a + 1)
  show Bd k (k.format.add b c) (a + 1)
  unfold Ieee.Format.add
  rw [hr, hr2]
  exact bd_nearest ha (sum_bd hi hj h1 h2)

theorem bd_sub {k : FloatKind} {v u : Option Nat} {a : Nat} (hv : Bd k v a) (hu : Bd k u a) (ha : a + 1 < topE k) : Bd k (ar .sub k v u) (a + 1) := by
  obtain ⟨b, m, i, rfl, hr, hi, _, h1⟩ := hv.read
  obtain ⟨c, n, j, rfl, hr2, hj, _, h2⟩ := hu.read
  show Bd k (k.format.sub b c) (a + 1)
  unfold Ieee.Format.sub
  rw [hr, hr2]
  exact bd_nearest ha (sum_bd hi hj h1 h2)

/-- The exponent of 1, in least places. -/
def oneE (k : FloatKind) : Nat := match k with | .f32 => 149 | .f64 => 1074
theorem oneE_lp (k : FloatKind) : k.format.leastPlace = -(oneE k : Int) := by cases k <;> decide +kernel

theorem bd_mul {k : FloatKind} {v u : Option Nat} {a c e : Nat} (hv : Bd k v a) (hu : Bd k u c) (he : e < topE k) (hac : a + c ≤ e + oneE k) : Bd k (ar .mul k v u) e := by
  obtain ⟨b, m, i, rfl, hr, hi, _, h1⟩ := hv.read
  obtain ⟨d, n, j, rfl, hr2, hj, _, h2⟩ := hu.read
  show Bd k (k.format.mul b d) e
  unfold Ieee.Format.mul
  rw [hr, hr2]
  refine bd_nearest he ?_
  have hlp := oneE_lp k
  have h3 := Nat.mul_le_mul h1 h2
  rw [← Nat.pow_add, Nat.mul_mul_mul_comm, ← Nat.pow_add] at h3
  have h4 : m * n * 2 ^ ((i - k.format.leastPlace).toNat + (j - k.format.leastPlace).toNat) ≤ 2 ^ (e + oneE k) := Nat.le_trans h3 (Nat.pow_le_pow_right (by decide) hac)
  generalize hx : (i + j - k.format.leastPlace).toNat = x
  generalize hy : (k.format.leastPlace - (i + j)).toNat = y
  have hxy : (i - k.format.leastPlace).toNat + (j - k.format.leastPlace).toNat + y = x + oneE k := by omega
  have h5 := Nat.mul_le_mul_right (2 ^ y) h4
  rw [Nat.mul_assoc, ← Nat.pow_add, ← Nat.pow_add, hxy] at h5
  rw [Nat.pow_add 2 x, ← Nat.mul_assoc, show e + oneE k + y = e + y + oneE k by omega, Nat.pow_add 2 (e + y)] at h5
  exact Nat.le_of_mul_le_mul_right h5 (Nat.two_pow_pos _)

/-- What is told is a finite number, at least 2^c least places. -/
def Lo (k : FloatKind) (v : Option Nat) (c : Nat) : Prop := ∃ b, v = some b ∧ rg k b < k.format.infRung ∧ 2 ^ c ≤ mg k.format.binade (rg k b)

theorem quot_le {D n T : Nat} (hn : 0 < n) (h : D ≤ T * n) : 2 * (D / n) + (D % n != 0).toNat ≤ 2 * T := by
  have e := Nat.div_add_mod D n
  have hq : D / n ≤ T := Nat.div_le_of_le_mul (by rw [Nat.mul_comm]; exact h)
  rcases Nat.lt_or_eq_of_le hq with h1 | h1
  · have : ∀ b : Bool, b.toNat ≤ 1 := fun b => by cases b <;> decide
    have := this (D % n != 0)
    omega
  · rw [h1, Nat.mul_comm] at e
    have hr : D % n = 0 := by omega
    rw [hr, h1]
    simp

theorem bd_quo {k : FloatKind} {v u : Option Nat} {a c e : Nat} (hv : Bd k v a) (hu : Lo k u c) (he : e < topE k) (hac : a + oneE k ≤ e + c) : Bd k (ar .quo k v u) e := by
  obtain ⟨b, m, i, rfl, hr, hi, _, h1⟩ := hv.read
  obtain ⟨d, rfl, hd1, hd2⟩ := hu
  obtain ⟨n, j, hr2, hj, hn⟩ := read_num k d hd1
  rw [← hn] at hd2
  show Bd k (k.format.div b d) e
  unfold Ieee.Format.div
  rw [hr, hr2]
  have hn0 : n ≠ 0 := fun h => by
    subst h
    rw [Nat.zero_mul] at hd2
    have := Nat.two_pow_pos c
    omega
  unfold Ieee.Datum.quotient
  simp only [if_neg hn0]
  have hlp := oneE_lp k
  by_cases hm0 : m = 0
  · subst hm0
    refine bd_nearest he ?_
    simp
  generalize hw : k.format.fractionBits + 2 + n.log2 - m.log2 = w
  refine bd_nearest he ?_
  rw [Nat.shiftLeft_eq]
  generalize hx : (i - j - w - 1 - k.format.leastPlace).toNat = x
  generalize hy : (k.format.leastPlace - (i - j - w - 1)).toNat = y
  -- m * 2^w * 2^.. <= n * 2^..
  generalize hI : (i - k.format.leastPlace).toNat = I at h1
  generalize hJ : (j - k.format.leastPlace).toNat = J at hd2
  have lm : m.log2 + I ≤ a := by
    have h2 := Nat.le_trans (Nat.mul_le_mul_right (2 ^ I) (Nat.log2_self_le hm0)) h1
    rw [← Nat.pow_add] at h2
    exact (Nat.pow_le_pow_iff_right (by decide)).1 h2
  have ln : c ≤ n.log2 + J := by
    have h2 : n * 2 ^ J < 2 ^ (n.log2 + 1) * 2 ^ J := Nat.mul_lt_mul_of_pos_right Nat.lt_log2_self (Nat.two_pow_pos _)
    rw [← Nat.pow_add] at h2
    have h3 := (Nat.pow_lt_pow_iff_right (show 1 < 2 by decide)).1 (Nat.lt_of_le_of_lt hd2 h2)
    omega
  have key : m * 2 ^ I * 2 ^ c ≤ 2 ^ a * (n * 2 ^ J) := Nat.mul_le_mul h1 hd2
  -- e + y - x ≥ 1 - ..: the quotient's bound is 2^T
  by_cases hT : 1 + x ≤ e + y
  · have hq : m * 2 ^ w ≤ 2 ^ (e + y - x - 1) * n := by
      have h2 : m * 2 ^ w * 2 ^ (I + c) ≤ 2 ^ (e + y - x - 1) * n * 2 ^ (I + c) := by
        have h3 : m * 2 ^ I * 2 ^ c * 2 ^ w ≤ 2 ^ a * (n * 2 ^ J) * 2 ^ w := Nat.mul_le_mul_right _ key
        have e1 : m * 2 ^ w * 2 ^ (I + c) = m * 2 ^ I * 2 ^ c * 2 ^ w := by
          rw [Nat.pow_add]; simp only [Nat.mul_assoc, Nat.mul_comm, Nat.mul_left_comm]
        have e2 : 2 ^ a * (n * 2 ^ J) * 2 ^ w = n * 2 ^ (a + J + w) := by
          rw [Nat.pow_add, Nat.pow_add]; simp only [Nat.mul_assoc, Nat.mul_comm, Nat.mul_left_comm]
        have e3 : 2 ^ (e + y - x - 1) * n * 2 ^ (I + c) = n * 2 ^ (e + y - x - 1 + I + c) := by
          rw [Nat.pow_add, Nat.pow_add _ (e + y - x - 1 + I), Nat.pow_add]; simp only [Nat.mul_assoc, Nat.mul_comm, Nat.mul_left_comm]
        rw [e1, e3]
        rw [e2] at h3
        refine Nat.le_trans h3 (Nat.mul_le_mul_left _ (Nat.pow_le_pow_right (by decide) ?_))
        omega
      exact Nat.le_of_mul_le_mul_right h2 (Nat.two_pow_pos _)
    have h4 := quot_le (Nat.pos_of_ne_zero hn0) hq
    have h5 := Nat.mul_le_mul_right (2 ^ x) h4
    refine Nat.le_trans h5 ?_
    have e4 : 2 * 2 ^ (e + y - x - 1) * 2 ^ x = 2 ^ (e + y) := by
      rw [show 2 * 2 ^ (e + y - x - 1) = 2 ^ (e + y - x - 1 + 1) by rw [Nat.pow_succ, Nat.mul_comm], ← Nat.pow_add]
      congr 1
      omega
    rw [e4]
    exact Nat.le_refl _
  · exfalso
    clear key h1 hd2 hn
    omega
end Flo
end Go.Proofs.Ytpebdcimbdbbmaa
