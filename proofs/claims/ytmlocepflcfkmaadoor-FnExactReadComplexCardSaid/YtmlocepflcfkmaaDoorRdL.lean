/-
  A number read off its decimal text: the plain law. Conditions: those that each theorem names.
-/
import Derived.Test.YtmlocepflcfkmaaDoorDecL
import Derived.Lib.ItoaMem
import Derived.Lib.ParseIntB
namespace Go.Proofs.YtmlocepflcfkmaaDoor
namespace Dec
open Go.Lib

/-- The digits of a text, other bytes passed over. -/
def dvF (a : Nat) (c : UInt8) : Nat := if 48 ≤ c.toNat ∧ c.toNat ≤ 57 then 10 * a + (c.toNat - 48) else a
def dv (l : List UInt8) : Nat := l.foldl dvF 0
/-- With the sign. -/
def vl (l : List UInt8) : Int := if l.head? = some 45 then -(dv l : Int) else dv l

theorem nat_of {k : Nat} (h : k < 10) : (UInt8.ofNat (48 + k)).toNat = 48 + k := by
  rw [UInt8.toNat_ofNat']
  omega
theorem dvF_digit (a k : Nat) (h : k < 10) : dvF a (UInt8.ofNat (48 + k)) = 10 * a + k := by
  unfold dvF
  rw [nat_of h, if_pos (by omega)]
  omega
theorem dv_dd (u : Nat) : (decDigits u).foldl dvF 0 = u := by
  induction u using Nat.strongRecOn with
  | _ u ih =>
    by_cases h : u < 10
    · rw [decDigits, dif_pos h]
      simp only [List.foldl_cons, List.foldl_nil]
      rw [dvF_digit 0 u h]
      omega
    · rw [decDigits, dif_neg h, List.foldl_append, ih (u / 10) (by omega)]
      simp only [List.foldl_cons, List.foldl_nil]
      rw [dvF_digit _ _ (Nat.mod_lt _ (by decide))]
      omega
theorem dd_digit (u : Nat) : ∀ c ∈ decDigits u, 48 ≤ c.toNat ∧ c.toNat ≤ 57 := by
  induction u using Nat.strongRecOn with
  | _ u ih =>
    intro c hc
    by_cases h : u < 10
    · rw [decDigits, dif_pos h] at hc
      obtain rfl := List.mem_singleton.1 hc
      rw [nat_of h]; omega
    · rw [decDigits, dif_neg h, List.mem_append] at hc
      rcases hc with hc | hc
      · exact ih (u / 10) (by omega) c hc
      · obtain rfl := List.mem_singleton.1 hc
        have := Nat.mod_lt u (show 0 < 10 by decide)
        rw [nat_of this]; omega
theorem dd_ne (u : Nat) : decDigits u ≠ [] := by
  by_cases h : u < 10
  · rw [decDigits, dif_pos h]; simp
  · rw [decDigits, dif_neg h]; simp
theorem vl_itoa (m : Int) : vl (itoa m) = m := by
  unfold vl itoa
  by_cases h : m < 0
  · rw [if_pos h]
    rw [if_pos (by rfl)]
    unfold dv
    rw [List.foldl_cons, show dvF 0 45 = 0 by rfl, dv_dd]
    omega
  · rw [if_neg h]
    have hh : (decDigits m.toNat).head? ≠ some 45 := by
      intro e
      have hm := List.mem_of_head? e
      have := dd_digit _ _ hm
      have h45 : (45 : UInt8).toNat = 45 := rfl
      omega
    rw [if_neg hh]
    unfold dv
    rw [dv_dd]
    omega

theorem nd_le : ∀ k u : Nat, u < 10 ^ (k + 1) → nDigits u ≤ k + 1 := by
  intro k
  induction k with
  | zero => intro u h; rw [nDigits_small (by simpa using h)]; omega
  | succ k ih =>
    intro u h
    by_cases hu : u < 10
    · rw [nDigits_small hu]; omega
    · rw [nDigits_big hu]
      have := ih (u / 10) (Nat.div_lt_of_lt_mul (by rw [Nat.pow_succ, Nat.mul_comm] at h; exact h))
      omega
/-- Is the number one that may be read? -/
def Val (m : Int) : Prop := -1000000000000000 ≤ m ∧ m ≤ 1000000000000000
theorem itoa_len {m : Int} (h : Val m) : 1 ≤ (itoa m).length ∧ (itoa m).length ≤ 17 := by
  obtain ⟨h1, h2⟩ := h
  have key : ∀ u : Nat, u ≤ 1000000000000000 → 1 ≤ (decDigits u).length ∧ (decDigits u).length ≤ 16 := by
    intro u hu
    constructor
    · exact Nat.pos_of_ne_zero (fun e => dd_ne u (List.length_eq_zero_iff.1 e))
    · rw [decDigits_length]
      exact nd_le 15 u (Nat.lt_of_le_of_lt hu (by decide))
  unfold itoa
  by_cases h : m < 0
  · rw [if_pos h, List.length_cons]
    have := key m.natAbs (by omega)
    omega
  · rw [if_neg h]
    have := key m.toNat (by omega)
    omega

theorem parse_dd (u : Nat) (hu : u ≤ 1000000000000000) : ∀ r, parseUintM (2 ^ 64 - 1) 0 (decDigits u ++ r) = parseUintM (2 ^ 64 - 1) u r := by
  induction u using Nat.strongRecOn with
  | _ u ih =>
    intro r
    have h64 : (2 : Nat) ^ 64 - 1 = 18446744073709551615 := by decide
    by_cases h : u < 10
    · rw [decDigits, dif_pos h]
      simp only [List.cons_append, List.nil_append]
      rw [parseUintM, nat_of h, if_pos (by omega), if_neg (by omega), if_neg (by omega)]
      congr 1
      omega
    · rw [decDigits, dif_neg h, List.append_assoc, ih (u / 10) (by omega) (by omega)]
      simp only [List.cons_append, List.nil_append]
      have hm := Nat.mod_lt u (show 0 < 10 by decide)
      rw [parseUintM, nat_of hm, if_pos (by omega), if_neg (by omega), if_neg (by omega)]
      congr 1
      omega
theorem parseU (u : Nat) (hu : u ≤ 1000000000000000) : parseUintB 64 (decDigits u) = .ok u := by
  unfold parseUintB
  rw [if_neg (dd_ne u)]
  have := parse_dd u hu []
  rw [List.append_nil] at this
  rw [this]; rfl
theorem parse_itoa {m : Int} (h : Val m) : parseIntB 64 (itoa m) = .ok m := by
  obtain ⟨h1, h2⟩ := h
  have h63 : (2 : Nat) ^ (64 - 1) = 9223372036854775808 := by decide
  by_cases hn : m < 0
  · obtain ⟨u, rfl⟩ : ∃ u : Nat, m = -(u : Int) := ⟨m.natAbs, by omega⟩
    rw [itoa_neg u (by omega)]
    unfold parseIntB
    simp only []
    have e45 : (45 : UInt8).toNat = 45 := rfl
    rw [e45, if_pos (Or.inr rfl), parseU u (by omega)]
    simp only []
    rw [if_neg (by simp), if_neg (by rw [h63]; omega), if_pos trivial]
  · obtain ⟨u, rfl⟩ : ∃ u : Nat, m = (u : Int) := ⟨m.toNat, by omega⟩
    rw [itoa_nonneg]
    have hp := parseU u (by omega)
    have hd := dd_digit u
    cases hl : decDigits u with
    | nil => exact absurd hl (dd_ne u)
    | cons c r =>
      rw [hl] at hp hd
      have hc := hd c (List.mem_cons_self ..)
      unfold parseIntB
      simp only []
      rw [if_neg (by omega), hp]
      simp only []
      rw [if_neg (by rw [h63]; omega), if_neg (by omega), if_neg (by omega)]

/-- What is read: the number and whether there is one. -/
def Rd (l : List UInt8) (n : Int) (ok : Bool) : Prop := (ok = true ∧ Val n ∧ itoa n = l) ∨ (ok = false ∧ n = 0 ∧ ∀ m, Val m → itoa m ≠ l)
theorem Rd.uniq {l : List UInt8} {n n' : Int} {ok ok' : Bool} (h : Rd l n ok) (h' : Rd l n' ok') : n = n' ∧ ok = ok' := by
  rcases h with ⟨a, b, c⟩ | ⟨a, b, c⟩ <;> rcases h' with ⟨a', b', c'⟩ | ⟨a', b', c'⟩
  · exact ⟨by rw [← vl_itoa n, ← vl_itoa n', c, c'], by rw [a, a']⟩
  · exact absurd c (c' n b)
  · exact absurd c' (c n' b')
  · exact ⟨by rw [b, b'], by rw [a, a']⟩
theorem Rd.len {l : List UInt8} (h : l.length < 1 ∨ 17 < l.length) : Rd l 0 false :=
  .inr ⟨rfl, rfl, fun m hm e => by have := itoa_len hm; rw [e] at this; omega⟩
theorem Rd.yes {l : List UInt8} {n : Int} (h1 : Val n) (h2 : itoa n = l) : Rd l n true := .inl ⟨rfl, h1, h2⟩
theorem Rd.no_vl {l : List UInt8} (h : ¬ (Val (vl l) ∧ itoa (vl l) = l)) : Rd l 0 false :=
  .inr ⟨rfl, rfl, fun m hm e => h (by have := vl_itoa m; rw [e] at this; rw [this]; exact ⟨hm, e⟩)⟩
theorem Rd.no_ok {l : List UInt8} {v : Int} (hp : parseIntB 64 l = .ok v) (h : ¬ (Val v ∧ itoa v = l)) : Rd l 0 false :=
  .inr ⟨rfl, rfl, fun m hm e => h (by
    have := parse_itoa hm
    rw [e, hp] at this
    injection this with this
    rw [this]; exact ⟨hm, e⟩)⟩
theorem Rd.no_err {l : List UInt8} (hp : ∀ v, parseIntB 64 l ≠ .ok v) : Rd l 0 false :=
  .inr ⟨rfl, rfl, fun m hm e => hp m (by rw [← e]; exact parse_itoa hm)⟩

theorem dv_lt (l : List UInt8) : dv l < 10 ^ l.length := by
  have key : ∀ (l : List UInt8) (a n : Nat), a < 10 ^ n → l.foldl dvF a < 10 ^ (n + l.length) := by
    intro l
    induction l with
    | nil => intro a n h; exact h
    | cons c l ih =>
      intro a n h
      rw [List.foldl_cons, List.length_cons, show n + (l.length + 1) = (n + 1) + l.length by omega]
      refine ih _ _ ?_
      unfold dvF
      rw [Nat.pow_succ]
      split <;> omega
  have := key l 0 0 (by decide)
  rw [Nat.zero_add] at this
  exact this
theorem dv_snoc (l : List UInt8) (c : UInt8) : dv (l ++ [c]) = dvF (dv l) c := by unfold dv; rw [List.foldl_append]; rfl
end Dec
end Go.Proofs.YtmlocepflcfkmaaDoor
