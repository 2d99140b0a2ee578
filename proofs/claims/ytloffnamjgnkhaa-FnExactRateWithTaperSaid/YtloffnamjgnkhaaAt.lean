/-
  The rate at an amount: the reference's and the program's functions. Conditions: a valid scale, an amount that is not negative.
-/
import Derived.Test.YtloffnamjgnkhaaAsk
namespace Go.Proofs.Ytloffnamjgnkhaa
open Go.RowKit Mem

theorem OkS.le {bs rs : List Int} (h : OkS bs rs) : ∀ (j i : Nat), i ≤ j → j < bs.length → bs.getD i 0 ≤ bs.getD j 0 := by
  intro j
  induction j with
  | zero => intro i hi _; obtain rfl : i = 0 := by omega
            exact Int.le_refl _
  | succ j ih =>
    intro i hi hj
    by_cases hij : i = j + 1
    · subst hij; exact Int.le_refl _
    · have := ih i (by omega) (by omega)
      have := h.a j hj
      omega

/-- The rate of the last break that is not above the amount, of the first k. -/
def AtK (bs rs : List Int) (cents : Int) (k : Nat) (v : Int) : Prop := ∃ j, j < k ∧ v = rs.getD j 0 ∧ bs.getD j 0 ≤ cents ∧ ∀ i, j < i → i < k → cents < bs.getD i 0

theorem AtK.uniq {bs rs : List Int} {cents : Int} {k : Nat} {u v : Int} (h1 : AtK bs rs cents k u) (h2 : AtK bs rs cents k v) : u = v := by
  obtain ⟨j1, a1, rfl, b1, c1⟩ := h1
  obtain ⟨j2, a2, rfl, b2, c2⟩ := h2
  by_cases h : j1 < j2
  · have := c1 j2 h a2; omega
  · by_cases h' : j2 < j1
    · have := c2 j1 h' a1; omega
    · obtain rfl : j1 = j2 := by omega
      rfl

open Classical in
/-- The rate at an amount. -/
noncomputable def atV (bs rs : List Int) (cents : Int) : Int := if h : ∃ v, AtK bs rs cents bs.length v then h.choose else 0
theorem atV_eq {bs rs : List Int} {cents v : Int} (h : AtK bs rs cents bs.length v) : atV bs rs cents = v := by
  unfold atV
  rw [dif_pos ⟨v, h⟩]
  exact AtK.uniq (Exists.choose_spec (⟨v, h⟩ : ∃ v, AtK bs rs cents bs.length v)) h
theorem atV_bd {bs rs : List Int} {cents v : Int} (h : AtK bs rs cents bs.length v) (hv : OkS bs rs) : 0 ≤ atV bs rs cents ∧ atV bs rs cents ≤ 10000 := by
  rw [atV_eq h]
  obtain ⟨j, a, rfl, _, _⟩ := h
  exact hv.r j a

theorem AtK.yes {bs rs : List Int} {cents x r : Int} {k : Nat} (hx : Hid (bs[k]? = some x)) (hr : Hid (rs[k]? = some r)) (hle : x ≤ cents) : AtK bs rs cents (k + 1) r :=
  ⟨k, by omega, (getD_of hr).symm, by rw [getD_of hx]; exact hle, fun i hi hi' => by omega⟩
theorem AtK.no {bs rs : List Int} {cents x v : Int} {k : Nat} (h : AtK bs rs cents k v) (hx : Hid (bs[k]? = some x)) (hle : cents < x) : AtK bs rs cents (k + 1) v := by
  obtain ⟨j, a, b, c, d⟩ := h
  refine ⟨j, by omega, b, c, fun i hi hi' => ?_⟩
  by_cases hik : i = k
  · subst hik; rw [getD_of hx]; exact hle
  · exact d i hi (by omega)
theorem AtK.stop {bs rs : List Int} {cents x v : Int} {k : Nat} (h : AtK bs rs cents k v) (hv : OkS bs rs) (hk : k < bs.length) (hx : Hid (bs[k]? = some x)) (hle : cents < x) : AtK bs rs cents bs.length v := by
  obtain ⟨j, a, b, c, d⟩ := h
  refine ⟨j, by omega, b, c, fun i hi hi' => ?_⟩
  by_cases hik : i < k
  · exact d i hi hik
  · have := hv.le i k (by omega) hi'
    rw [getD_of hx] at this
    omega
theorem at_ex {bs rs : List Int} {cents : Int} (hv : OkS bs rs) (hc : 0 ≤ cents) : ∃ v, AtK bs rs cents bs.length v := by
  have : ∀ k, 0 < k → k ≤ bs.length → ∃ v, AtK bs rs cents k v := by
    intro k
    induction k with
    | zero => intro h; omega
    | succ k ih =>
      intro _ hk
      have hx : Hid (bs[k]? = some bs[k]) := List.getElem?_eq_getElem (by omega)
      by_cases hle : bs[k] ≤ cents
      · exact ⟨rs.getD k 0, k, by omega, rfl, by rw [getD_of hx]; exact hle, fun i hi hi' => by omega⟩
      · by_cases hk0 : k = 0
        · subst hk0
          have := hv.z
          rw [getD_of hx] at this
          omega
        · obtain ⟨v, h⟩ := ih (by omega) (by omega)
          exact ⟨v, h.no hx (by omega)⟩
  exact this _ hv.l1 (Nat.le_refl _)

set_option maxHeartbeats 1000000 in
theorem at_spec (A : Option Addr) (n c : Nat) (bs : List Int) (B : Option Addr) (m d : Nat) (rs : List Int) (p : Nat) (cents : Int) (w : World) (hp0 : w.cell? ⟨p, 0, none⟩ = some (.slice A n c)) (hp1 : w.cell? ⟨p, 1, none⟩ = some (.slice B m d))
    (h : Sl w A n (valsI bs)) (h2 : Sl w B m (valsI rs)) (hv : OkS bs rs) (hc0 : 0 ≤ cents) :
    Calls Try.prog 64 #[.pointer (some ⟨p, 0, none⟩), .int .i64 cents] w fun e w' => e = .returned (.int .i64 (atV bs rs cents)) ∧ w = w' := by
  have HA := Lib.hid h
  have HB := Lib.hid h2
  have HL := Lib.hid (show bs.length = n by rw [← valsI_len, h.len])
  obtain rfl : m = n := by rw [← h2.len, valsI_len, hv.lr, HL.out]
  have n1 : 1 ≤ m := by have := hv.l1; rw [HL.out] at this; exact this
  have n8 : m ≤ 8 := by have := hv.l8; rw [HL.out] at this; exact this
  clear h h2
  have HV := Lib.hid hv
  clear hv
  obtain ⟨b, off, x, rfl, hb, HX, hcx⟩ := slI_at HA.out (show 0 < m by omega)
  obtain ⟨b2, off2, r, rfl, hb2, HR, hcr⟩ := slI_at HB.out (show 0 < m by omega)
  rw [Nat.add_zero] at hcx hcr
  have HS := Lib.hid (show AtK bs rs cents 1 r from AtK.yes HX HR (by have := HV.out.z; rw [getD_of HX] at this; omega))
  go_enter Try.func64, Try.ntmps64
  go_wp2
  clear HX HR hcx hcr
  go_loopw [6, 5] (fun i o wr => ∃ (k : Nat) (v : Int), 1 ≤ k ∧ k ≤ m ∧ i = .int .i64 k ∧ o = .int .i64 v ∧ wr = w ∧ AtK bs rs cents k v) (fun i _ _ => m - (intOf i).toNat)
  case atStart => exact ⟨1, r, Nat.le_refl _, n1, rfl, rfl, rfl, HS.out⟩
  case round =>
    obtain ⟨k, v, hk1, hk, rfl, rfl, rfl, HE⟩ := hrel
    by_cases hlt : k < m
    · obtain ⟨b', off', x, e1, _, HX, hcx⟩ := slI_at HA.out hlt
      injection e1 with e1
      injection e1 with e1 e1'
      subst e1
      subst e1'
      obtain ⟨b3, off3, r, e1, _, HR, hcr⟩ := slI_at HB.out hlt
      injection e1 with e1
      injection e1 with e1 e1'
      subst e1
      subst e1'
      by_cases hle : x ≤ cents
      · have HS := Lib.hid (show AtK bs rs cents (k + 1) r from AtK.yes HX HR hle)
        go_wp2
        go_roundw
        case rel => exact ⟨k + 1, r, by omega, by omega, by go_num, (by first | rfl | trivial), (by first | rfl | trivial), HS.out⟩
        case measure => simp [intOf]; omega
      · have HS := Lib.hid (atV_eq (HE.stop HV.out (by rw [HL.out]; exact hlt) HX (by omega)))
        go_wp2
        go_ret
        exact ⟨ret_int HS.out.symm, rfl⟩
    · obtain rfl : m = k := by omega
      have HS := Lib.hid (atV_eq (by rw [HL.out]; exact HE))
      go_wp2
      go_ret
      exact ⟨ret_int HS.out.symm, rfl⟩

set_option maxHeartbeats 1000000 in
theorem rate_at_impl (A : Option Addr) (n c : Nat) (bs : List Int) (B : Option Addr) (m d : Nat) (rs : List Int) (cents : Int) (w : World)
    (h : Sl w A n (valsI bs)) (h2 : Sl w B m (valsI rs)) (hv : OkS bs rs) (hc0 : 0 ≤ cents) :
    Calls Try.prog 66 #[.agg #[.slice A n c, .slice B m d], .int .i64 cents] w fun e w' => e = .returned (.int .i64 (atV bs rs cents)) ∧ Kp [] w w' := by
  have HA := Lib.hid (h.alloc (.cells #[.slice A n c, .slice B m d] 27))
  have HB := Lib.hid (h2.alloc (.cells #[.slice A n c, .slice B m d] 27))
  have HL := Lib.hid (show bs.length = n by rw [← valsI_len, h.len])
  obtain rfl : m = n := by rw [← h2.len, valsI_len, hv.lr, HL.out]
  have n1 : 1 ≤ m := by have := hv.l1; rw [HL.out] at this; exact this
  have n8 : m ≤ 8 := by have := hv.l8; rw [HL.out] at this; exact this
  clear h h2
  have HV := Lib.hid hv
  clear hv
  have HW := Lib.hid ((Kp.refl w).alloc (.cells #[.slice A m c, .slice B m d] 27))
  go_enter Try.func66, Try.ntmps66
  go_wp2_with fail
  go_loopw [11, 5] (fun i o wr => ∃ (k : Nat) (v : Int), k ≤ m ∧ i = .int .i64 k ∧ o = .int .i64 v ∧ wr = w.alloc (.cells #[.slice A m c, .slice B m d] 27) ∧ (0 < k → AtK bs rs cents k v)) (fun i _ _ => m - (intOf i).toNat)
  case atStart => exact ⟨0, 0, Nat.zero_le _, rfl, rfl, rfl, fun hh => absurd hh (by omega)⟩
  case round =>
    obtain ⟨k, v, hk, rfl, rfl, rfl, HE⟩ := hrel
    by_cases hlt : k < m
    · obtain ⟨b', off', x, rfl, _, HX, hcx⟩ := slI_at HA.out hlt
      obtain ⟨b3, off3, r, rfl, _, HR, hcr⟩ := slI_at HB.out hlt
      by_cases hle : x ≤ cents
      · have HS := Lib.hid (show AtK bs rs cents (k + 1) r from AtK.yes HX HR hle)
        go_wp2_with fail
        go_roundw
        case rel => exact ⟨k + 1, r, by omega, by go_num, (by first | rfl | trivial), (by first | rfl | trivial), fun _ => HS.out⟩
        case measure => simp [intOf]; omega
      · have HS := Lib.hid (show AtK bs rs cents (k + 1) v from (HE (by
          rcases Nat.eq_zero_or_pos k with rfl | h0
          · have := HV.out.z; rw [getD_of HX] at this; omega
          · exact h0)).no HX (by omega))
        clear HE
        go_wp2_with fail
        go_roundw
        case rel => exact ⟨k + 1, v, by omega, by go_num, (by first | rfl | trivial), (by first | rfl | trivial), fun _ => HS.out⟩
        case measure => simp [intOf]; omega
    · obtain rfl : m = k := by omega
      have HS := Lib.hid (atV_eq (by rw [HL.out]; exact HE (by omega)))
      go_wp2_with fail
      go_ret
      exact ⟨ret_int HS.out.symm, HW.out⟩
end Go.Proofs.Ytloffnamjgnkhaa
