/-
  Is a scale valid: the reference's and the program's functions answer alike. Conditions: the slices read as lists that are not too long.
-/
import Derived.Test.YtloffnamjgnkhaaWithin
import Derived.Test.YtloffnamjgnkhaaTaper
import Derived.Deep.RegionWith
namespace Go.Proofs.Ytloffnamjgnkhaa
open Go.RowKit Mem

/-- A valid scale. -/
structure OkS (bs rs : List Int) : Prop where
  l1 : 1 ≤ bs.length
  l8 : bs.length ≤ 8
  lr : rs.length = bs.length
  z : bs.getD 0 0 = 0
  c : ∀ i, i < bs.length → 0 ≤ bs.getD i 0 ∧ bs.getD i 0 ≤ 1000000000000
  a : ∀ i, i + 1 < bs.length → bs.getD i 0 < bs.getD (i + 1) 0
  r : ∀ i, i < bs.length → 0 ≤ rs.getD i 0 ∧ rs.getD i 0 ≤ 10000

theorem getD_of {zs : List Int} {k : Nat} {x : Int} (h : Hid (zs[k]? = some x)) : zs.getD k 0 = x := by simp [List.getD, h.out]

/-! ### Ascending -/

/-- The first k numbers ascend. -/
def Asck (zs : List Int) (k : Nat) : Prop := ∀ i, i + 1 < k → zs.getD i 0 < zs.getD (i + 1) 0

theorem Asck.one {zs : List Int} : Asck zs 1 := fun i hi => absurd hi (by omega)
theorem Asck.succ {zs : List Int} {k : Nat} {x y : Int} (h : Asck zs k) (h1 : 1 ≤ k) (hy : Hid (zs[k - 1]? = some y)) (hx : Hid (zs[k]? = some x)) (hlt : y < x) : Asck zs (k + 1) := by
  intro i hi
  by_cases hik : i + 1 = k
  · subst hik
    rw [getD_of hx, getD_of (by simpa using hy)]
    exact hlt
  · exact h i (by omega)
theorem Asck.no {zs : List Int} {k n : Nat} {x y : Int} (h1 : 1 ≤ k) (hk : k < n) (hy : Hid (zs[k - 1]? = some y)) (hx : Hid (zs[k]? = some x)) (hlt : ¬ y < x) : ¬ Asck zs n := by
  intro h
  have := h (k - 1) (by omega)
  rw [getD_of hy, show k - 1 + 1 = k by omega, getD_of hx] at this
  exact hlt this

/-- What the test hands back. -/
def AscPost (P : Prop) (w : World) (e : Ending) (w' : World) : Prop := ∃ b : Bool, e = .returned (.bool b) ∧ (b = true ↔ P) ∧ ∃ q, w' = w.drewN q

set_option maxHeartbeats 400000 in
theorem asc_any (A : Option Addr) (n c : Nat) (zs : List Int) (w : World) (h : Sl w A n (valsI zs)) (hn : n ≤ 1048576) (h1 : 1 ≤ n) :
    Calls Try.prog 61 #[.slice A n c] w (AscPost (Asck zs n) w) := by
  have HA := Lib.hid h
  clear h
  go_enter Try.func61, Try.ntmps61
  go_wp2
  go_loopw [3] (fun i wr => ∃ (k q : Nat), 1 ≤ k ∧ k ≤ n ∧ i = .int .i64 k ∧ wr = w.drewN q ∧ Asck zs k) (fun i _ => n - (intOf i).toNat)
  case atStart => exact ⟨1, 0, Nat.le_refl _, h1, rfl, rfl, Asck.one⟩
  case round =>
    obtain ⟨k, q, hk1, hk, rfl, rfl, HE⟩ := hrel
    by_cases hlt : k < n
    · obtain ⟨b, off, x, rfl, hb, HX, hcx⟩ := slI_at HA.out hlt
      obtain ⟨b2, off2, y, e2, hb2, HY, hcy⟩ := slI_at HA.out (show k - 1 < n by omega)
      injection e2 with e2
      injection e2 with e2 e3
      subst e2
      subst e3
      have i0 : (0 : Int) ≤ (k : Int) - 1 := by omega
      have i1 : (k : Int) - 1 < (n : Int) := by omega
      by_cases e : y < x
      · have e' : decide (x ≤ y) = false := decide_eq_false (by omega)
        go_wp2
        go_quiet (fail)
        go_wp2
        go_roundw
        case rel => exact ⟨k + 1, _, by omega, by omega, by go_num, rfl, HE.succ hk1 HY HX e⟩
        case measure => simp [intOf]; omega
      · have e' : decide (x ≤ y) = true := decide_eq_true (by omega)
        have HF := Lib.hid (Asck.no hk1 hlt HY HX e)
        clear e
        go_wp2
        go_quiet (fail)
        go_wp2
        go_ret
        exact ⟨_, rfl, ⟨fun hh => (by cases hh), fun hh => (HF.out hh).elim⟩, _, World.drewN_drewN _ _ _⟩
    · obtain rfl : n = k := by omega
      go_wp2
      go_ret
      exact ⟨_, rfl, ⟨fun _ => HE, fun _ => rfl⟩, _, rfl⟩

/-! ### The reference's test -/

/-- The first k rows are good. -/
structure Okk (bs rs : List Int) (k : Nat) : Prop where
  c : ∀ i, i < k → 0 ≤ bs.getD i 0 ∧ bs.getD i 0 ≤ 1000000000000
  a : ∀ i, i + 1 < k → bs.getD i 0 < bs.getD (i + 1) 0
  r : ∀ i, i < k → 0 ≤ rs.getD i 0 ∧ rs.getD i 0 ≤ 10000

theorem Okk.zero {bs rs : List Int} : Okk bs rs 0 := ⟨fun i hi => absurd hi (by omega), fun i hi => absurd hi (by omega), fun i hi => absurd hi (by omega)⟩
theorem Okk.succ {bs rs : List Int} {k : Nat} {x r : Int} (h : Okk bs rs k) (hx : Hid (bs[k]? = some x)) (hr : Hid (rs[k]? = some r)) (h1 : inB x 0 1000000000000 = true) (h2 : inB r 0 10000 = true)
    (ha : 0 < k → ∀ y, Hid (bs[k - 1]? = some y) → y < x) (hl : k < bs.length) : Okk bs rs (k + 1) := by
  have b1 := inB_iff.1 h1
  have b2 := inB_iff.1 h2
  refine ⟨fun i hi => ?_, fun i hi => ?_, fun i hi => ?_⟩
  · by_cases hik : i = k
    · subst hik; rw [getD_of hx]; exact b1
    · exact h.c i (by omega)
  · by_cases hik : i + 1 = k
    · subst hik
      have hy : bs[i]? = some bs[i] := List.getElem?_eq_getElem (by omega)
      have := ha (by omega) bs[i] (by rw [Nat.add_sub_cancel]; exact hy)
      rw [getD_of hx, getD_of hy]
      exact this
    · exact h.a i (by omega)
  · by_cases hik : i = k
    · subst hik; rw [getD_of hr]; exact b2
    · exact h.r i (by omega)
theorem Okk.noC {bs rs : List Int} {k : Nat} {x : Int} (hx : Hid (bs[k]? = some x)) (hk : k < bs.length) (h1 : inB x 0 1000000000000 = false) : ¬ OkS bs rs := by
  intro h
  have := h.c k hk
  rw [getD_of hx, ← inB_iff, h1] at this
  cases this
theorem Okk.noR {bs rs : List Int} {k : Nat} {x : Int} (hx : Hid (rs[k]? = some x)) (hk : k < bs.length) (h1 : inB x 0 10000 = false) : ¬ OkS bs rs := by
  intro h
  have := h.r k hk
  rw [getD_of hx, ← inB_iff, h1] at this
  cases this
theorem Okk.noA {bs rs : List Int} {k : Nat} {x y : Int} (hx : Hid (bs[k]? = some x)) (hy : Hid (bs[k - 1]? = some y)) (hk : k < bs.length) (h0 : 0 < k) (h1 : ¬ y < x) : ¬ OkS bs rs := by
  intro h
  have := h.a (k - 1) (by omega)
  rw [getD_of hy, show k - 1 + 1 = k by omega, getD_of hx] at this
  exact h1 this

theorem quiet_add_same {P : Program} {f : FuncId} {args : Array Value} {w : World} {a n : Nat} {v : Value}
    (h : Calls P f args (w.drewN (a + n)) fun e w' => e = .returned v ∧ w' = w.drewN (a + n)) :
    Calls P f args (w.drewN (a + n)) fun e w'' => e = .returned v ∧ ∃ m, w'' = w.drewN (a + m) :=
  h.mono fun _ _ ⟨he, hm⟩ => ⟨he, n, hm⟩
theorem cents_is {x : Int} {b : Bool} (h : inB x 0 1000000000000 = b) (w : World) : Calls Try.prog 63 #[.int .i64 x] w fun e w' => e = .returned (.bool b) ∧ w' = w := by
  subst h
  exact (cents_spec _ _).mono fun _ _ ⟨he, hw⟩ => ⟨he, hw.symm⟩
theorem rate_is {x : Int} {b : Bool} (h : inB x 0 10000 = b) (w : World) : Calls Try.prog 68 #[.int .i64 x] w fun e w' => e = .returned (.bool b) ∧ w' = w := by
  subst h
  exact (rate_spec _ _).mono fun _ _ ⟨he, hw⟩ => ⟨he, hw.symm⟩

set_option maxHeartbeats 1000000 in
theorem is_any (A : Option Addr) (n c : Nat) (bs : List Int) (B : Option Addr) (m d : Nat) (rs : List Int) (p : Nat) (w : World) (hp0 : w.cell? ⟨p, 0, none⟩ = some (.slice A n c)) (hp1 : w.cell? ⟨p, 1, none⟩ = some (.slice B m d))
    (h : Sl w A n (valsI bs)) (h2 : Sl w B m (valsI rs)) (hn : n ≤ 1048576) (hm : m ≤ 1048576) :
    Calls Try.prog 59 #[.pointer (some ⟨p, 0, none⟩)] w (AscPost (OkS bs rs) w) := by
  have HA := Lib.hid h
  have HB := Lib.hid h2
  have hl : bs.length = n := by rw [← valsI_len, h.len]
  have hl2 : rs.length = m := by rw [← valsI_len, h2.len]
  clear h h2
  by_cases h1 : (n : Int) < 1
  · have HF := Lib.hid (show ¬ OkS bs rs from fun hh => by have := hh.l1; omega)
    clear hl hl2
    go_enter Try.func59, Try.ntmps59
    go_wp2
    go_ret
    exact ⟨_, rfl, ⟨fun hh => (by cases hh), fun hh => (HF.out hh).elim⟩, 0, rfl⟩
  · by_cases h8 : (8 : Int) < (n : Int)
    · have HF := Lib.hid (show ¬ OkS bs rs from fun hh => by have := hh.l8; omega)
      clear hl hl2
      go_enter Try.func59, Try.ntmps59
      go_wp2
      go_ret
      exact ⟨_, rfl, ⟨fun hh => (by cases hh), fun hh => (HF.out hh).elim⟩, 0, rfl⟩
    · by_cases hmn : m = n
      · subst hmn
        obtain ⟨b, off, x, rfl, hb, HX, hcx⟩ := slI_at HA.out (show 0 < m by omega)
        rw [Nat.add_zero] at hcx
        by_cases hx : x = 0
        · subst hx
          have HZ := Lib.hid (getD_of HX)
          have HL := Lib.hid hl
          have HL2 := Lib.hid hl2
          clear hl hl2
          go_enter Try.func59, Try.ntmps59
          go_wp2
          clear HX hcx
          go_loopw [4] (fun i wr => ∃ (k q : Nat), k ≤ m ∧ i = .int .i64 k ∧ wr = w.drewN q ∧ Okk bs rs k) (fun i _ => m - (intOf i).toNat)
          case atStart => exact ⟨0, 0, Nat.zero_le _, rfl, rfl, Okk.zero⟩
          case round =>
            obtain ⟨k, q, hk, rfl, rfl, HE⟩ := hrel
            by_cases hlt : k < m
            · obtain ⟨b', off', x, e1, _, HX, hcx⟩ := slI_at HA.out hlt
              injection e1 with e1
              injection e1 with e1 e1'
              subst e1
              subst e1'
              obtain ⟨b2, off2, r, rfl, hb2, HR, hcr⟩ := slI_at HB.out hlt
              cases hc : inB x 0 1000000000000
              · have HF := Lib.hid (Okk.noC (rs := rs) HX (by rw [HL.out]; exact hlt) hc)
                go_wp2
                go_quiet ((go_at_call 63; exact quiet_add_same (cents_is hc _)))
                go_wp2
                go_ret
                exact ⟨_, rfl, ⟨fun hh => (by cases hh), fun hh => (HF.out hh).elim⟩, _, World.drewN_drewN _ _ _⟩
              · by_cases hk0 : 0 < k
                · have hd : decide ((0 : Int) < (k : Int)) = true := decide_eq_true (by omega)
                  obtain ⟨b3, off3, y, e2, _, HY, hcy⟩ := slI_at HA.out (show k - 1 < m by omega)
                  injection e2 with e2
                  injection e2 with e2 e2'
                  subst e2
                  subst e2'
                  have i0 : (0 : Int) ≤ (k : Int) - 1 := by omega
                  have i1 : (k : Int) - 1 < (m : Int) := by omega
                  by_cases hy : y < x
                  · have hd2 : decide (x ≤ y) = false := decide_eq_false (by omega)
                    cases hr : inB r 0 10000
                    · have HF := Lib.hid (Okk.noR HR (by rw [HL.out]; exact hlt) hr)
                      go_wp2
                      go_quiet ((first | (go_at_call 63; exact quiet_add_same (cents_is hc _)) | (go_at_call 68; exact quiet_add_same (rate_is hr _))))
                      go_wp2
                      go_ret
                      exact ⟨_, rfl, ⟨fun hh => (by cases hh), fun hh => (HF.out hh).elim⟩, _, World.drewN_drewN _ _ _⟩
                    · have HS := Lib.hid (HE.succ HX HR hc hr (fun _ y' hy' => (by have h3 := HY.out; rw [hy'.out] at h3; injection h3 with h3; omega)) (by rw [HL.out]; exact hlt))
                      clear HE
                      go_wp2
                      go_quiet ((first | (go_at_call 63; exact quiet_add_same (cents_is hc _)) | (go_at_call 68; exact quiet_add_same (rate_is hr _))))
                      go_wp2
                      go_roundw
                      case rel => exact ⟨k + 1, _, by omega, by go_num, rfl, HS.out⟩
                      case measure => simp [intOf]; omega
                  · have hd2 : decide (x ≤ y) = true := decide_eq_true (by omega)
                    have HF := Lib.hid (Okk.noA (rs := rs) HX HY (by rw [HL.out]; exact hlt) hk0 hy)
                    go_wp2
                    go_quiet ((go_at_call 63; exact quiet_add_same (cents_is hc _)))
                    go_wp2
                    go_ret
                    exact ⟨_, rfl, ⟨fun hh => (by cases hh), fun hh => (HF.out hh).elim⟩, _, World.drewN_drewN _ _ _⟩
                · obtain rfl : k = 0 := by omega
                  rw [Nat.add_zero] at hcx hcr
                  cases hr : inB r 0 10000
                  · have HF := Lib.hid (Okk.noR HR (by rw [HL.out]; exact hlt) hr)
                    go_wp2
                    go_quiet ((first | (go_at_call 63; exact quiet_add_same (cents_is hc _)) | (go_at_call 68; exact quiet_add_same (rate_is hr _))))
                    go_wp2
                    go_ret
                    exact ⟨_, rfl, ⟨fun hh => (by cases hh), fun hh => (HF.out hh).elim⟩, _, World.drewN_drewN _ _ _⟩
                  · have HS := Lib.hid (HE.succ HX HR hc hr (fun h0 => absurd h0 (by omega)) (by rw [HL.out]; exact hlt))
                    clear HE
                    go_wp2
                    go_quiet ((first | (go_at_call 63; exact quiet_add_same (cents_is hc _)) | (go_at_call 68; exact quiet_add_same (rate_is hr _))))
                    go_wp2
                    go_roundw
                    case rel => exact ⟨0 + 1, _, by omega, by go_num, rfl, HS.out⟩
                    case measure => simp [intOf]; omega
            · obtain rfl : m = k := by omega
              have HF := Lib.hid (show OkS bs rs from ⟨by rw [HL.out]; omega, by rw [HL.out]; omega, by rw [HL.out, HL2.out], HZ.out, by rw [HL.out]; exact HE.c, by rw [HL.out]; exact HE.a, by rw [HL.out]; exact HE.r⟩)
              go_wp2
              go_ret
              exact ⟨_, rfl, ⟨fun _ => HF.out, fun _ => rfl⟩, _, rfl⟩
        · have hx' : (x == 0) = false := beq_eq_false_iff_ne.2 hx
          have HF := Lib.hid (show ¬ OkS bs rs from fun hh => hx (by rw [← hh.z, getD_of HX]))
          clear hl hl2 hx
          go_enter Try.func59, Try.ntmps59
          go_wp2
          go_ret
          exact ⟨_, rfl, ⟨fun hh => (by cases hh), fun hh => (HF.out hh).elim⟩, 0, rfl⟩
      · have hne : ((m : Int) == (n : Int)) = false := by rw [beq_eq_false_iff_ne]; omega
        have hne2 : ((m : Int) != (n : Int)) = true := by rw [bne_iff_ne]; omega
        have hne3 : (m != n) = true := by rw [bne_iff_ne]; exact hmn
        have HF := Lib.hid (show ¬ OkS bs rs from fun hh => by have := hh.lr; omega)
        clear hl hl2 hmn
        go_enter Try.func59, Try.ntmps59
        go_wp2
        go_ret
        exact ⟨_, rfl, ⟨fun hh => (by cases hh), fun hh => (HF.out hh).elim⟩, 0, rfl⟩
end Go.Proofs.Ytloffnamjgnkhaa
