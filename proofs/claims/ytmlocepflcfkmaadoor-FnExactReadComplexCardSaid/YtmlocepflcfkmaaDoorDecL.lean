/-
  Decimal digits, last one first: the plain law. Conditions: those that each theorem names.
-/
import Derived.Lib.ItoaNum
namespace Go.Proofs.YtmlocepflcfkmaaDoor
namespace Dec
open Go.Lib

/-- The byte of a number's last digit. -/
def dg (k : Nat) : UInt8 := UInt8.ofNat (48 + k % 10)
theorem dg_nat (k : Nat) : ((dg k).toNat : Int) = 48 + ((k % 10 : Nat) : Int) := by
  unfold dg
  have h : k % 10 < 10 := Nat.mod_lt _ (by decide)
  generalize k % 10 = r at h
  have : (UInt8.ofNat (48 + r)).toNat = 48 + r := by
    rw [UInt8.toNat_ofNat']
    omega
  omega

/-- Of m's digits k's are left, L's are written. -/
def St (m k : Nat) (L : List UInt8) : Prop := (L = [] ∧ k = m) ∨ (L ≠ [] ∧ ((k = 0 ∧ decDigits m = L) ∨ (k ≠ 0 ∧ decDigits m = decDigits k ++ L)))

theorem St.zero (m : Nat) : St m m [] := .inl ⟨rfl, rfl⟩
theorem dd_small {k : Nat} (h : k < 10) : decDigits k = [dg k] := by
  rw [decDigits, dif_pos h]
  unfold dg
  rw [Nat.mod_eq_of_lt h]
theorem dd_big {k : Nat} (h : ¬ k < 10) : decDigits k = decDigits (k / 10) ++ [dg k] := by
  rw [decDigits, dif_neg h]; rfl
theorem St.next {m k : Nat} {L : List UInt8} (h : St m k L) (hc : L = [] ∨ k ≠ 0) : St m (k / 10) (dg k :: L) := by
  right
  refine ⟨by simp, ?_⟩
  have key : decDigits m = decDigits k ++ L := by
    rcases h with ⟨rfl, rfl⟩ | ⟨hL, h⟩
    · simp
    · rcases hc with hc | hc
      · exact absurd hc hL
      · rcases h with ⟨h, _⟩ | ⟨_, h⟩
        · exact absurd h hc
        · exact h
  by_cases hk : k < 10
  · left
    refine ⟨Nat.div_eq_of_lt hk, ?_⟩
    rw [key, dd_small hk]; rfl
  · right
    refine ⟨by omega, ?_⟩
    rw [key, dd_big hk, List.append_assoc]; rfl
theorem St.done {m k : Nat} {L : List UInt8} (h : St m k L) (hL : L ≠ []) (hk : k = 0) : decDigits m = L := by
  rcases h with ⟨h, _⟩ | ⟨_, h⟩
  · exact absurd h hL
  · rcases h with ⟨_, h⟩ | ⟨h, _⟩
    · exact h
    · exact absurd hk h

/-- How much is left where so many are written. -/
def Room (k n : Nat) : Prop := n ≤ 20 ∧ k < 10 ^ (20 - n)
theorem Room.zero {m : Nat} (h : m ≤ 9223372036854775808) : Room m 0 := ⟨by omega, Nat.lt_of_le_of_lt h (by decide)⟩
theorem Room.next {k n : Nat} (h : Room k n) (hc : n = 0 ∨ k ≠ 0) : Room (k / 10) (n + 1) ∧ n < 20 := by
  obtain ⟨h1, h2⟩ := h
  have hn : n < 20 := by
    rcases Nat.lt_or_eq_of_le h1 with h3 | h3
    · exact h3
    · rcases hc with h4 | h4
      · omega
      · rw [h3] at h2
        simp at h2
        omega
  refine ⟨⟨hn, ?_⟩, hn⟩
  rw [show 20 - n = (20 - (n + 1)) + 1 by omega, Nat.pow_succ] at h2
  exact Nat.div_lt_of_lt_mul (by rw [Nat.mul_comm]; exact h2)
end Dec
end Go.Proofs.YtmlocepflcfkmaaDoor
