/-
  Numbers in hexadecimal: the plain law. Conditions: those that each theorem names.
-/
import Derived.Test.YtmlocepflcfkmaaDoorCutL
namespace Go.Proofs.YtmlocepflcfkmaaDoor
namespace Hex

/-- A digit. -/
def hdg (d : Nat) : UInt8 := if d < 10 then UInt8.ofNat (48 + d) else UInt8.ofNat (87 + d)
theorem hdg_nat {d : Nat} (h : d < 16) : (hdg d).toNat = if d < 10 then 48 + d else 87 + d := by
  unfold hdg
  split
  · rw [UInt8.toNat_ofNat']; omega
  · rw [UInt8.toNat_ofNat']; omega
/-- The last k digits. -/
def hxk : Nat → Nat → List UInt8
  | 0, _ => []
  | k + 1, u => hxk k (u / 16) ++ [hdg (u % 16)]
theorem hxk_len : ∀ k u, (hxk k u).length = k
  | 0, _ => rfl
  | k + 1, u => by rw [hxk, List.length_append, hxk_len k]; rfl
/-- All 8 digits. -/
def hexL (n : Nat) : List UInt8 := hxk 8 n
theorem hexL_len (n : Nat) : (hexL n).length = 8 := hxk_len 8 n
theorem hxk_zero : ∀ j, hxk j 0 = List.replicate j 48
  | 0 => rfl
  | j + 1 => by
    rw [hxk, show 0 / 16 = 0 from rfl, hxk_zero j, List.replicate_succ']
    rfl
theorem hxk_pad (j : Nat) : ∀ k u, u < 16 ^ k → hxk (k + j) u = List.replicate j 48 ++ hxk k u
  | 0, u, h => by
    have : u = 0 := by simpa using h
    subst this
    rw [Nat.zero_add, hxk_zero]
    simp [hxk]
  | k + 1, u, h => by
    rw [show k + 1 + j = (k + j) + 1 by omega, hxk, hxk, hxk_pad j k (u / 16) (Nat.div_lt_of_lt_mul (by rw [Nat.pow_succ, Nat.mul_comm] at h; exact h)), List.append_assoc]
theorem hexL_pad {k u : Nat} (hk : k ≤ 8) (h : u < 16 ^ k) : List.replicate (8 - k) 48 ++ hxk k u = hexL u := by
  rw [← hxk_pad (8 - k) k u h, show k + (8 - k) = 8 by omega]
  rfl
/-- One digit more, from the front. -/
theorem hxk_front : ∀ k u, hxk (k + 1) u = hdg (u / 16 ^ k % 16) :: hxk k u
  | 0, u => by simp [hxk]
  | k + 1, u => by
    rw [hxk, hxk_front k (u / 16), hxk]
    rw [Nat.div_div_eq_div_mul, show 16 * 16 ^ k = 16 ^ (k + 1) by rw [Nat.pow_succ, Nat.mul_comm]]
    rfl

/-- The value of a digit. -/
def dgv (c : UInt8) : Option Nat := if 48 ≤ c.toNat ∧ c.toNat ≤ 57 then some (c.toNat - 48) else if 97 ≤ c.toNat ∧ c.toNat ≤ 102 then some (c.toNat - 87) else none
theorem dgv_hdg {d : Nat} (h : d < 16) : dgv (hdg d) = some d := by
  unfold dgv
  rw [hdg_nat h]
  by_cases h10 : d < 10
  · rw [if_pos h10, if_pos (by omega)]; congr 1; omega
  · rw [if_neg h10, if_neg (by omega), if_pos (by omega)]; congr 1; omega
theorem hdg_dgv {c : UInt8} {d : Nat} (h : dgv c = some d) : d < 16 ∧ hdg d = c := by
  unfold dgv at h
  split at h
  · rename_i h1
    injection h with h
    subst h
    refine ⟨by omega, UInt8.toNat_inj.1 ?_⟩
    rw [hdg_nat (by omega), if_pos (by omega)]; omega
  · split at h
    · rename_i h1 h2
      injection h with h
      subst h
      refine ⟨by omega, UInt8.toNat_inj.1 ?_⟩
      rw [hdg_nat (by omega), if_neg (by omega)]; omega
    · cases h
/-- The value of a text, digit by digit. -/
def vlH : Nat → List UInt8 → Option Nat
  | a, [] => some a
  | a, c :: l => match dgv c with
    | some d => vlH (16 * a + d) l
    | none => none
theorem vlH_snoc (c : UInt8) : ∀ (l : List UInt8) (a : Nat), vlH a (l ++ [c]) = match vlH a l with
    | some v => (match dgv c with
      | some d => some (16 * v + d)
      | none => none)
    | none => none
  | [], a => by
    rw [List.nil_append, vlH]
    simp only [vlH]
  | x :: l, a => by
    rw [List.cons_append, vlH, vlH]
    cases dgv x with
    | none => rfl
    | some d => exact vlH_snoc c l _
theorem vlH_hxk : ∀ k u, vlH 0 (hxk k u) = some (u % 16 ^ k)
  | 0, u => by simp [hxk, vlH, Nat.mod_one]
  | k + 1, u => by
    rw [hxk, vlH_snoc, vlH_hxk k, dgv_hdg (Nat.mod_lt _ (by decide))]
    simp only []
    congr 1
    rw [Nat.pow_succ, Nat.mul_comm (16 ^ k) 16, Nat.mod_mul]
    omega
theorem hxk_vlH : ∀ (k : Nat) (l : List UInt8) (v : Nat), l.length = k → vlH 0 l = some v → v < 16 ^ k ∧ hxk k v = l
  | 0, l, v, hl, h => by
    have : l = [] := List.length_eq_zero_iff.1 hl
    subst this
    simp only [vlH] at h
    injection h with h
    subst h
    exact ⟨by decide, rfl⟩
  | k + 1, l, v, hl, h => by
    have hne : l ≠ [] := fun e => by rw [e] at hl; cases hl
    obtain ⟨p, c, rfl⟩ : ∃ p c, l = p ++ [c] := ⟨l.dropLast, l.getLast hne, (List.dropLast_concat_getLast hne).symm⟩
    have hp : p.length = k := by simpa using hl
    rw [vlH_snoc] at h
    cases hv : vlH 0 p with
    | none => rw [hv] at h; cases h
    | some w =>
      rw [hv] at h
      simp only [] at h
      cases hd : dgv c with
      | none => rw [hd] at h; cases h
      | some d =>
        rw [hd] at h
        simp only [] at h
        injection h with h
        subst h
        obtain ⟨h1, h2⟩ := hxk_vlH k p w hp hv
        obtain ⟨h3, h4⟩ := hdg_dgv hd
        refine ⟨by rw [Nat.pow_succ]; omega, ?_⟩
        rw [hxk, show (16 * w + d) / 16 = w by omega, show (16 * w + d) % 16 = d by omega, h2, h4]
theorem hexL_vlH {l : List UInt8} {v : Nat} (hl : l.length = 8) (h : vlH 0 l = some v) : v < 4294967296 ∧ hexL v = l := by
  have := hxk_vlH 8 l v hl h
  exact ⟨by have h2 := this.1; rw [show (16 : Nat) ^ 8 = 4294967296 by decide] at h2; exact h2, this.2⟩
theorem vlH_hexL {u : Nat} (h : u < 4294967296) : vlH 0 (hexL u) = some u := by
  have := vlH_hxk 8 u
  rw [show (16 : Nat) ^ 8 = 4294967296 by decide, Nat.mod_eq_of_lt h] at this
  exact this
theorem vlH_lt : ∀ (l : List UInt8) (v : Nat), vlH 0 l = some v → v < 16 ^ l.length := fun l v h => (hxk_vlH l.length l v rfl h).1
theorem dig_at : ∀ (D : Nat) (hD : D < 16) (h : D < (⟨#[48, 49, 50, 51, 52, 53, 54, 55, 56, 57, 97, 98, 99, 100, 101, 102]⟩ : ByteArray).size), (⟨#[48, 49, 50, 51, 52, 53, 54, 55, 56, 57, 97, 98, 99, 100, 101, 102]⟩ : ByteArray)[D]'h = hdg D := by
  intro D hD h
  have : D = 0 ∨ D = 1 ∨ D = 2 ∨ D = 3 ∨ D = 4 ∨ D = 5 ∨ D = 6 ∨ D = 7 ∨ D = 8 ∨ D = 9 ∨ D = 10 ∨ D = 11 ∨ D = 12 ∨ D = 13 ∨ D = 14 ∨ D = 15 := by omega
  rcases this with rfl | rfl | rfl | rfl | rfl | rfl | rfl | rfl | rfl | rfl | rfl | rfl | rfl | rfl | rfl | rfl <;> rfl
theorem dig_at36 : ∀ (D : Nat) (hD : D < 16) (h : D < (⟨#[48, 49, 50, 51, 52, 53, 54, 55, 56, 57, 97, 98, 99, 100, 101, 102, 103, 104, 105, 106, 107, 108, 109, 110, 111, 112, 113, 114, 115, 116, 117, 118, 119, 120, 121, 122]⟩ : ByteArray).size), (⟨#[48, 49, 50, 51, 52, 53, 54, 55, 56, 57, 97, 98, 99, 100, 101, 102, 103, 104, 105, 106, 107, 108, 109, 110, 111, 112, 113, 114, 115, 116, 117, 118, 119, 120, 121, 122]⟩ : ByteArray)[D]'h = hdg D := by
  intro D hD h
  have : D = 0 ∨ D = 1 ∨ D = 2 ∨ D = 3 ∨ D = 4 ∨ D = 5 ∨ D = 6 ∨ D = 7 ∨ D = 8 ∨ D = 9 ∨ D = 10 ∨ D = 11 ∨ D = 12 ∨ D = 13 ∨ D = 14 ∨ D = 15 := by omega
  rcases this with rfl | rfl | rfl | rfl | rfl | rfl | rfl | rfl | rfl | rfl | rfl | rfl | rfl | rfl | rfl | rfl <;> rfl
theorem pow_16 (i : Nat) (h : i < 8) : 2 ^ (28 - 4 * i) = 16 ^ (8 - (i + 1)) := by
  rw [show (16 : Nat) = 2 ^ 4 from rfl, ← Nat.pow_mul]
  congr 1
  omega
theorem front_step (N i : Nat) (h : i < 8) : hxk (i + 1) (N / 16 ^ (8 - (i + 1))) = hxk i (N / 16 ^ (8 - i)) ++ [hdg (N / 16 ^ (8 - (i + 1)) % 16)] := by
  rw [hxk, Nat.div_div_eq_div_mul, ← Nat.pow_succ, show (8 - (i + 1)).succ = 8 - i by omega]
end Hex
end Go.Proofs.YtmlocepflcfkmaaDoor
