/-
  10000 times the exact due of an amount, the due, the net: the reference's and the program's functions. Conditions: a valid scale, an amount.
-/
import Derived.Test.YtloffnamjgnkhaaAt
namespace Go.Proofs.Ytloffnamjgnkhaa
open Go.RowKit Mem

/-- Where the piece of break i ends. -/
def nxB (bs : List Int) (cents : Int) (i : Nat) : Int := if i + 1 < bs.length then min cents (bs.getD (i + 1) 0) else cents
/-- The sum of the first k pieces. -/
def exk (bs rs : List Int) (cents : Int) : Nat → Int
  | 0 => 0
  | k + 1 => exk bs rs cents k + (nxB bs cents k - bs.getD k 0) * rs.getD k 0
/-- v is the sum of the pieces up to the amount. -/
def ExIs (bs rs : List Int) (cents v : Int) : Prop := ∃ k, k ≤ bs.length ∧ v = exk bs rs cents k ∧ (∀ i, i < k → bs.getD i 0 < cents) ∧ (k < bs.length → cents ≤ bs.getD k 0)

theorem ExIs.uniq {bs rs : List Int} {cents u v : Int} (h1 : ExIs bs rs cents u) (h2 : ExIs bs rs cents v) : u = v := by
  obtain ⟨j1, a1, rfl, b1, c1⟩ := h1
  obtain ⟨j2, a2, rfl, b2, c2⟩ := h2
  by_cases h : j1 < j2
  · have := b2 j1 h; have := c1 (by omega); omega
  · by_cases h' : j2 < j1
    · have := b1 j2 h'; have := c2 (by omega); omega
    · obtain rfl : j1 = j2 := by omega
      rfl
open Classical in
/-- 10000 times the exact due. -/
noncomputable def exV (bs rs : List Int) (cents : Int) : Int := if h : ∃ v, ExIs bs rs cents v then h.choose else 0
theorem exV_eq {bs rs : List Int} {cents v : Int} (h : ExIs bs rs cents v) : exV bs rs cents = v := by
  unfold exV
  rw [dif_pos ⟨v, h⟩]
  exact ExIs.uniq (Exists.choose_spec (⟨v, h⟩ : ∃ v, ExIs bs rs cents v)) h

theorem piece_bd {x e r : Int} (h1 : x ≤ e) (h0 : 0 ≤ x) (h2 : e ≤ 1000000000000) (r0 : 0 ≤ r) (r1 : r ≤ 10000) : 0 ≤ (e - x) * r ∧ (e - x) * r ≤ 10000 * (e - x) := by
  refine ⟨Int.mul_nonneg (by omega) r0, ?_⟩
  rw [Int.mul_comm]
  exact Int.mul_le_mul_of_nonneg_right r1 (by omega)
theorem exk_bd {bs rs : List Int} (hv : OkS bs rs) {cents : Int} (c0 : 0 ≤ cents) (c1 : cents ≤ 1000000000000) : ∀ k, k ≤ bs.length → (∀ i, i < k → bs.getD i 0 < cents) → 0 ≤ exk bs rs cents k ∧ (k < bs.length → exk bs rs cents k ≤ 10000 * min cents (bs.getD k 0)) ∧ exk bs rs cents k ≤ 10000 * cents := by
  intro k
  induction k with
  | zero =>
    intro _ _
    have := hv.z
    refine ⟨Int.le_refl _, fun _ => ?_, ?_⟩
    · rw [this]; show (0 : Int) ≤ _; omega
    · show (0 : Int) ≤ _; omega
  | succ k ih =>
    intro hk hb
    obtain ⟨i0, i1, i2⟩ := ih (by omega) (fun i hi => hb i (by omega))
    have i1 := i1 (by omega)
    have hx := hb k (by omega)
    have hc := hv.c k (by omega)
    have hr := hv.r k (by omega)
    have hn : bs.getD k 0 ≤ nxB bs cents k ∧ nxB bs cents k ≤ cents ∧ (k + 1 < bs.length → nxB bs cents k ≤ min cents (bs.getD (k + 1) 0)) := by
      unfold nxB
      split
      · rename_i h
        have := hv.a k h
        exact ⟨by omega, by omega, fun _ => Int.le_refl _⟩
      · rename_i h
        exact ⟨by omega, by omega, fun hh => absurd hh h⟩
    obtain ⟨p0, p1⟩ := piece_bd hn.1 hc.1 (by omega) hr.1 hr.2
    have e : exk bs rs cents (k + 1) = exk bs rs cents k + (nxB bs cents k - bs.getD k 0) * rs.getD k 0 := rfl
    rw [e]
    generalize hP : (nxB bs cents k - bs.getD k 0) * rs.getD k 0 = P at *
    refine ⟨by omega, fun hh => ?_, by omega⟩
    have := hn.2.2 hh
    omega
theorem exV_bd {bs rs : List Int} (hv : OkS bs rs) {cents v : Int} (c0 : 0 ≤ cents) (c1 : cents ≤ 1000000000000) (h : ExIs bs rs cents v) : 0 ≤ v ∧ v ≤ 10000 * cents := by
  obtain ⟨k, a, rfl, b, _⟩ := h
  have := exk_bd hv c0 c1 k a b
  exact ⟨this.1, this.2.2⟩

/-- What stands after k pieces. -/
def ExK (bs rs : List Int) (cents : Int) (k : Nat) (v : Int) : Prop := k ≤ bs.length ∧ v = exk bs rs cents k ∧ ∀ i, i < k → bs.getD i 0 < cents
theorem ExK.zero {bs rs : List Int} {cents : Int} : ExK bs rs cents 0 0 := ⟨Nat.zero_le _, rfl, fun _ h => absurd h (by omega)⟩
theorem ExK.done {bs rs : List Int} {cents v : Int} (h : ExK bs rs cents bs.length v) : ExIs bs rs cents v := ⟨_, h.1, h.2.1, h.2.2, fun hh => absurd hh (by omega)⟩
theorem ExK.stop {bs rs : List Int} {cents v x : Int} {k : Nat} (h : ExK bs rs cents k v) (hx : Hid (bs[k]? = some x)) (hle : cents ≤ x) : ExIs bs rs cents v := ⟨_, h.1, h.2.1, h.2.2, fun _ => by rw [getD_of hx]; exact hle⟩

/-- What one piece needs and gives: its end e. -/
structure Piece (bs rs : List Int) (cents : Int) (k : Nat) (v x r e : Int) : Prop where
  d0 : 0 ≤ e - x
  d1 : e - x ≤ 1000000000000
  p0 : 0 ≤ (e - x) * r
  p1 : (e - x) * r ≤ 10000000000000000
  s0 : 0 ≤ v + (e - x) * r
  s1 : v + (e - x) * r ≤ 10000000000000000
  next : ExK bs rs cents (k + 1) (v + (e - x) * r)
theorem ExK.piece {bs rs : List Int} {cents v x r e : Int} {k : Nat} (h : ExK bs rs cents k v) (hv : OkS bs rs) (c0 : 0 ≤ cents) (c1 : cents ≤ 1000000000000) (hk : k < bs.length) (hx : Hid (bs[k]? = some x)) (hr : Hid (rs[k]? = some r)) (hlt : x < cents) (he : nxB bs cents k = e) : Piece bs rs cents k v x r e := by
  have N : ExK bs rs cents (k + 1) (v + (e - x) * r) := by
    refine ⟨by omega, ?_, fun i hi => ?_⟩
    · show _ = exk bs rs cents k + _
      rw [getD_of hx, getD_of hr, he, h.2.1]
    · by_cases hik : i = k
      · subst hik; rw [getD_of hx]; exact hlt
      · exact h.2.2 i (by omega)
  obtain ⟨q0, _, q2⟩ := exk_bd hv c0 c1 (k + 1) N.1 N.2.2
  rw [← N.2.1] at q0 q2
  obtain ⟨u0, _, _⟩ := exk_bd hv c0 c1 k h.1 h.2.2
  rw [← h.2.1] at u0
  have hc := hv.c k hk
  have hrr := hv.r k hk
  rw [getD_of hx] at hc
  rw [getD_of hr] at hrr
  have hn : x ≤ e ∧ e ≤ cents := by
    subst he
    unfold nxB
    split
    · rename_i h
      have := hv.a k h
      rw [getD_of hx] at this
      omega
    · omega
  obtain ⟨p0, p1⟩ := piece_bd hn.1 hc.1 (by omega) hrr.1 hrr.2
  exact ⟨by omega, by omega, p0, by omega, q0, by omega, N⟩
theorem nxB_y {bs : List Int} {cents y : Int} {k : Nat} (h : k + 1 < bs.length) (hy : Hid (bs[k + 1]? = some y)) (hle : y ≤ cents) : nxB bs cents k = y := by
  unfold nxB; rw [if_pos h, getD_of hy]; omega
theorem nxB_c {bs : List Int} {cents y : Int} {k : Nat} (h : k + 1 < bs.length) (hy : Hid (bs[k + 1]? = some y)) (hle : cents < y) : nxB bs cents k = cents := by
  unfold nxB; rw [if_pos h, getD_of hy]; omega
theorem nxB_l {bs : List Int} {cents : Int} {k : Nat} (h : ¬ k + 1 < bs.length) : nxB bs cents k = cents := by
  unfold nxB; rw [if_neg h]

theorem min_is {a b e : Int} (h : min a b = e) (w : World) : Calls Try.prog 103 #[.int .i64 a, .int .i64 b] w fun e' w' => e' = .returned (.int .i64 e) ∧ w' = w := by
  by_cases hh : a < b
  · have HT := Lib.hid (show e = a by omega)
    clear h
    go_enter Try.func103, Try.ntmps103
    go_wp2
    go_ret
    exact ⟨ret_int HT.out.symm, rfl⟩
  · have HT := Lib.hid (show e = b by omega)
    clear h
    go_enter Try.func103, Try.ntmps103
    go_wp2
    go_ret
    exact ⟨ret_int HT.out.symm, rfl⟩

set_option maxHeartbeats 2000000 in
theorem exact_spec (A : Option Addr) (n c : Nat) (bs : List Int) (B : Option Addr) (m d : Nat) (rs : List Int) (p : Nat) (cents : Int) (w : World) (hp0 : w.cell? ⟨p, 0, none⟩ = some (.slice A n c)) (hp1 : w.cell? ⟨p, 1, none⟩ = some (.slice B m d))
    (h : Sl w A n (valsI bs)) (h2 : Sl w B m (valsI rs)) (hv : OkS bs rs) (hc0 : 0 ≤ cents) (hc1 : cents ≤ 1000000000000) :
    Calls Try.prog 72 #[.pointer (some ⟨p, 0, none⟩), .int .i64 cents] w fun e w' => e = .returned (.int .i64 (exV bs rs cents)) ∧ ∃ q, w' = w.drewN q := by
  have HA := Lib.hid h
  have HB := Lib.hid h2
  have HL := Lib.hid (show bs.length = n by rw [← valsI_len, h.len])
  obtain rfl : m = n := by rw [← h2.len, valsI_len, hv.lr, HL.out]
  have n1 : 1 ≤ m := by have := hv.l1; rw [HL.out] at this; exact this
  have n8 : m ≤ 8 := by have := hv.l8; rw [HL.out] at this; exact this
  clear h h2
  have HV := Lib.hid hv
  clear hv
  go_enter Try.func72, Try.ntmps72
  go_wp2
  go_loopw [6, 5] (fun i o wr => ∃ (k q : Nat) (v : Int), k ≤ m ∧ i = .int .i64 k ∧ o = .int .i64 v ∧ wr = w.drewN q ∧ ExK bs rs cents k v) (fun i _ _ => m - (intOf i).toNat)
  case atStart => exact ⟨0, 0, 0, Nat.zero_le _, rfl, rfl, rfl, ExK.zero⟩
  case round =>
    obtain ⟨k, q, v, hk, rfl, rfl, rfl, HE0⟩ := hrel
    have HE := Lib.hid HE0
    clear HE0
    by_cases hlt : k < m
    · obtain ⟨b', off', x, rfl, _, HX, hcx⟩ := slI_at HA.out hlt
      obtain ⟨b3, off3, r, rfl, _, HR, hcr⟩ := slI_at HB.out hlt
      by_cases hx : x < cents
      · have i0 : (0 : Int) ≤ (k : Int) + 1 := by omega
        by_cases hn : k + 1 < m
        · have i1 : (k : Int) + 1 < (m : Int) := by omega
          obtain ⟨b4, off4, y, e1, _, HY, hcy⟩ := slI_at HA.out hn
          injection e1 with e1
          injection e1 with e1 e1'
          subst e1
          subst e1'
          by_cases hy : y ≤ cents
          · have hmin : min cents y = y := by omega
            obtain ⟨d0, d1, p0, p1, s0, s1, N⟩ := HE.out.piece HV.out hc0 hc1 (by rw [HL.out]; exact hlt) HX HR hx (nxB_y (by rw [HL.out]; exact hn) HY hy)
            have HN := Lib.hid N
            clear N
            go_wp2_with (go_at_call 103; refine (min_is hmin _).mono ?_; rintro e w' ⟨rfl, rfl⟩)
            go_quiet (fail)
            go_wp2
            go_roundw
            case rel => exact ⟨k + 1, _, _, by omega, by go_num, rfl, rfl, HN.out⟩
            case measure => simp [intOf]; omega
          · have hmin : min cents y = cents := by omega
            obtain ⟨d0, d1, p0, p1, s0, s1, N⟩ := HE.out.piece HV.out hc0 hc1 (by rw [HL.out]; exact hlt) HX HR hx (nxB_c (by rw [HL.out]; exact hn) HY (by omega))
            have HN := Lib.hid N
            clear N
            go_wp2_with (go_at_call 103; refine (min_is hmin _).mono ?_; rintro e w' ⟨rfl, rfl⟩)
            go_quiet (fail)
            go_wp2
            go_roundw
            case rel => exact ⟨k + 1, _, _, by omega, by go_num, rfl, rfl, HN.out⟩
            case measure => simp [intOf]; omega
        · have i1 : ¬ (k : Int) + 1 < (m : Int) := by omega
          obtain ⟨d0, d1, p0, p1, s0, s1, N⟩ := HE.out.piece HV.out hc0 hc1 (by rw [HL.out]; exact hlt) HX HR hx (nxB_l (by rw [HL.out]; exact hn))
          have HN := Lib.hid N
          clear N
          go_wp2
          go_quiet (fail)
          go_wp2
          go_roundw
          case rel => exact ⟨k + 1, _, _, by omega, by go_num, rfl, rfl, HN.out⟩
          case measure => simp [intOf]; omega
      · have HS := Lib.hid (exV_eq (HE.out.stop HX (by omega)))
        go_wp2
        go_ret
        exact ⟨ret_int HS.out.symm, _, rfl⟩
    · obtain rfl : m = k := by omega
      have HS := Lib.hid (exV_eq (ExK.done (by rw [HL.out]; exact HE.out)))
      go_wp2
      go_ret
      exact ⟨ret_int HS.out.symm, _, rfl⟩

set_option maxHeartbeats 2000000 in
theorem exact_impl (A : Option Addr) (n c : Nat) (bs : List Int) (B : Option Addr) (m d : Nat) (rs : List Int) (cents : Int) (w : World)
    (h : Sl w A n (valsI bs)) (h2 : Sl w B m (valsI rs)) (hv : OkS bs rs) (hc0 : 0 ≤ cents) (hc1 : cents ≤ 1000000000000) :
    Calls Try.prog 74 #[.agg #[.slice A n c, .slice B m d], .int .i64 cents] w fun e w' => e = .returned (.int .i64 (exV bs rs cents)) ∧ Kp [] w w' := by
  have HA := Lib.hid (h.alloc (.cells #[.slice A n c, .slice B m d] 27))
  have HB := Lib.hid (h2.alloc (.cells #[.slice A n c, .slice B m d] 27))
  have HL := Lib.hid (show bs.length = n by rw [← valsI_len, h.len])
  obtain rfl : m = n := by rw [← h2.len, valsI_len, hv.lr, HL.out]
  have n1 : 1 ≤ m := by have := hv.l1; rw [HL.out] at this; exact this
  have n8 : m ≤ 8 := by have := hv.l8; rw [HL.out] at this; exact this
  clear h h2
  have HV := Lib.hid hv
  clear hv
  have HW := Lib.hid ((Kp.refl w).alloc (.cells #[.slice A m c, .slice B m d] 27))
  go_enter Try.func74, Try.ntmps74
  go_wp2_with fail
  go_loopw [12, 5] (fun i o wr => ∃ (k : Nat) (v : Int), k ≤ m ∧ i = .int .i64 k ∧ o = .int .i64 v ∧ wr = w.alloc (.cells #[.slice A m c, .slice B m d] 27) ∧ ExK bs rs cents k v) (fun i _ _ => m - (intOf i).toNat)
  case atStart => exact ⟨0, 0, Nat.zero_le _, rfl, rfl, rfl, ExK.zero⟩
  case round =>
    obtain ⟨k, v, hk, rfl, rfl, rfl, HE0⟩ := hrel
    have HE := Lib.hid HE0
    clear HE0
    by_cases hlt : k < m
    · obtain ⟨b', off', x, rfl, _, HX, hcx⟩ := slI_at HA.out hlt
      obtain ⟨b3, off3, r, rfl, _, HR, hcr⟩ := slI_at HB.out hlt
      by_cases hx : x < cents
      · have i0 : (0 : Int) ≤ (k : Int) + 1 := by omega
        by_cases hn : k + 1 < m
        · have i1 : (k : Int) + 1 < (m : Int) := by omega
          obtain ⟨b4, off4, y, e1, _, HY, hcy⟩ := slI_at HA.out hn
          injection e1 with e1
          injection e1 with e1 e1'
          subst e1
          subst e1'
          by_cases hy : y ≤ cents
          · have hm2 : (if y < cents then y else cents) = y := by split <;> omega
            obtain ⟨d0, d1, p0, p1, s0, s1, N⟩ := HE.out.piece HV.out hc0 hc1 (by rw [HL.out]; exact hlt) HX HR hx (nxB_y (by rw [HL.out]; exact hn) HY hy)
            have HN := Lib.hid N
            clear N
            go_wp2_with fail
            go_roundw
            case rel => exact ⟨k + 1, _, by omega, by go_num, (by first | rfl | (rw [hm2]; go_num)), (by first | rfl | trivial), HN.out⟩
            case measure => simp [intOf]; omega
          · have hm2 : (if y < cents then y else cents) = cents := by split <;> omega
            obtain ⟨d0, d1, p0, p1, s0, s1, N⟩ := HE.out.piece HV.out hc0 hc1 (by rw [HL.out]; exact hlt) HX HR hx (nxB_c (by rw [HL.out]; exact hn) HY (by omega))
            have HN := Lib.hid N
            clear N
            go_wp2_with fail
            go_roundw
            case rel => exact ⟨k + 1, _, by omega, by go_num, (by first | rfl | (rw [hm2]; go_num)), (by first | rfl | trivial), HN.out⟩
            case measure => simp [intOf]; omega
        · have i1 : ¬ (k : Int) + 1 < (m : Int) := by omega
          obtain ⟨d0, d1, p0, p1, s0, s1, N⟩ := HE.out.piece HV.out hc0 hc1 (by rw [HL.out]; exact hlt) HX HR hx (nxB_l (by rw [HL.out]; exact hn))
          have HN := Lib.hid N
          clear N
          go_wp2_with fail
          go_roundw
          case rel => exact ⟨k + 1, _, by omega, by go_num, (by first | rfl | trivial), (by first | rfl | trivial), HN.out⟩
          case measure => simp [intOf]; omega
      · have HS := Lib.hid (exV_eq (HE.out.stop HX (by omega)))
        go_wp2_with fail
        go_ret
        exact ⟨ret_int HS.out.symm, HW.out⟩
    · obtain rfl : m = k := by omega
      have HS := Lib.hid (exV_eq (ExK.done (by rw [HL.out]; exact HE.out)))
      go_wp2_with fail
      go_ret
      exact ⟨ret_int HS.out.symm, HW.out⟩
end Go.Proofs.Ytloffnamjgnkhaa
