/-
  What is read off a text with commas, whatever the things are: the plain law. Conditions: those that each theorem names.
-/
import Derived.Test.YtmlocepflcfkmaaDoorRlL
import Derived.Test.YtmlocepflcfkmaaDoorHexL
import Derived.Test.YtmlocepflcfkmaaDoorBits
namespace Go.Proofs.YtmlocepflcfkmaaDoor
namespace Rg
open Go.Lib Cut Dec Hex Flo

section
variable {E : Type} {tx : E → List UInt8} {good : E → Prop} {M : Nat}
/-- Nothing has this text. -/
def No (tx : E → List UInt8) (good : E → Prop) (p : List UInt8) : Prop := ∀ m, good m → tx m ≠ p
/-- What is read off a text. -/
def R (tx : E → List UInt8) (good : E → Prop) (M : Nat) (l : List UInt8) (xs : List E) (ok : Bool) : Prop :=
  (l = noneL ∧ ok = true ∧ xs = []) ∨
  (l ≠ noneL ∧ ok = true ∧ (cutL 44 l).length ≤ M ∧ (∀ n ∈ xs, good n) ∧ xs.map tx = cutL 44 l) ∨
  (l ≠ noneL ∧ ok = false ∧ xs = [] ∧ (M < (cutL 44 l).length ∨ ∃ p ∈ cutL 44 l, No tx good p))
theorem map_inj (hi : ∀ a b, good a → good b → tx a = tx b → a = b) : ∀ {xs ys : List E}, (∀ n ∈ xs, good n) → (∀ n ∈ ys, good n) → xs.map tx = ys.map tx → xs = ys
  | [], [], _, _, _ => rfl
  | [], _ :: _, _, _, h => by simp at h
  | _ :: _, [], _, _, h => by simp at h
  | x :: xs, y :: ys, h1, h2, h => by
    simp only [List.map_cons, List.cons.injEq] at h
    rw [hi x y (h1 x (List.mem_cons_self ..)) (h2 y (List.mem_cons_self ..)) h.1, map_inj hi (fun n hn => h1 n (List.mem_cons_of_mem _ hn)) (fun n hn => h2 n (List.mem_cons_of_mem _ hn)) h.2]
theorem R.uniq (hi : ∀ a b, good a → good b → tx a = tx b → a = b) {l : List UInt8} {xs ys : List E} {a b : Bool} (h : R tx good M l xs a) (k : R tx good M l ys b) : xs = ys ∧ a = b := by
  rcases h with ⟨h1, h2, h3⟩ | ⟨h1, h2, h3, h4, h5⟩ | ⟨h1, h2, h3, h4⟩ <;> rcases k with ⟨k1, k2, k3⟩ | ⟨k1, k2, k3, k4, k5⟩ | ⟨k1, k2, k3, k4⟩
  · exact ⟨by rw [h3, k3], by rw [h2, k2]⟩
  · exact absurd h1 k1
  · exact absurd h1 k1
  · exact absurd k1 h1
  · exact ⟨map_inj hi h4 k4 (by rw [h5, k5]), by rw [h2, k2]⟩
  · exfalso
    rcases k4 with k4 | ⟨p, hp, hq⟩
    · omega
    · rw [← h5, List.mem_map] at hp
      obtain ⟨n, hn, rfl⟩ := hp
      exact hq n (h4 n hn) rfl
  · exact absurd k1 h1
  · exfalso
    rcases h4 with h4 | ⟨p, hp, hq⟩
    · omega
    · rw [← k5, List.mem_map] at hp
      obtain ⟨n, hn, rfl⟩ := hp
      exact hq n (k4 n hn) rfl
  · exact ⟨by rw [h3, k3], by rw [h2, k2]⟩
theorem R.len {l : List UInt8} {xs : List E} {a : Bool} (h : R tx good M l xs a) : xs.length ≤ M := by
  rcases h with ⟨_, _, h3⟩ | ⟨_, _, h3, _, h5⟩ | ⟨_, _, h3, _⟩
  · rw [h3]; exact Nat.zero_le _
  · rw [← h5, List.length_map] at h3; exact h3
  · rw [h3]; exact Nat.zero_le _
theorem R.all_good {l : List UInt8} {xs : List E} {a : Bool} (h : R tx good M l xs a) : ∀ n ∈ xs, good n := by
  rcases h with ⟨_, _, h3⟩ | ⟨_, _, h3, h4, h5⟩ | ⟨_, _, h3, _⟩
  · rw [h3]; simp
  · exact h4
  · rw [h3]; simp
theorem sum_leK {K : Nat} {ps : List (List UInt8)} (h : ∀ p ∈ ps, p.length ≤ K) : (ps.map List.length).sum ≤ ps.length * K := by
  induction ps with
  | nil => simp
  | cons p ps ih =>
    have h1 := h p (List.mem_cons_self ..)
    have h2 := ih (fun q hq => h q (List.mem_cons_of_mem _ hq))
    simp only [List.map_cons, List.sum_cons, List.length_cons]
    rw [Nat.add_mul]
    omega
/-- A text that is too long is refused. -/
theorem R.long {K : Nat} (hK : ∀ m, good m → (tx m).length ≤ K) (hK19 : K ≤ 19) (h4 : noneL.length ≤ 20 * M) {l : List UInt8} (hl : 20 * M < l.length) (hM : 1 ≤ M) : R tx good M l [] false := by
  have hne : l ≠ noneL := by rintro rfl; omega
  refine .inr (.inr ⟨hne, rfl, rfl, ?_⟩)
  by_cases h : M < (cutL 44 l).length
  · exact .inl h
  · right
    by_cases h2 : ∀ p ∈ cutL 44 l, p.length ≤ K
    · have h3 := sum_leK h2
      have h4 := cutL_sum 44 l
      have h5 : (cutL 44 l).length * K ≤ M * 19 := Nat.mul_le_mul (by omega) hK19
      omega
    · obtain ⟨p, h3⟩ := Classical.not_forall.1 h2
      obtain ⟨hp, h4⟩ := Classical.not_imp.1 h3
      exact ⟨p, hp, fun m hm e => h4 (by rw [← e]; exact hK m hm)⟩
theorem R.none_ {l : List UInt8} (h : l = noneL) : R tx good M l [] true := .inl ⟨h, rfl, rfl⟩
theorem R.many {l : List UInt8} (h : l ≠ noneL) (h2 : M < (cutL 44 l).length) : R tx good M l [] false := .inr (.inr ⟨h, rfl, rfl, .inl h2⟩)
theorem R.bad {l : List UInt8} (h : l ≠ noneL) {p : List UInt8} (hp : p ∈ cutL 44 l) (hq : No tx good p) : R tx good M l [] false := .inr (.inr ⟨h, rfl, rfl, .inr ⟨p, hp, hq⟩⟩)
/-- The first k parts are read. -/
structure Rk (tx : E → List UInt8) (good : E → Prop) (l : List UInt8) (k : Nat) (xs : List E) : Prop where
  len : xs.length = k
  v : ∀ n ∈ xs, good n
  e : xs.map tx = (cutL 44 l).take k
theorem Rk.zero (l : List UInt8) : Rk tx good l 0 [] := ⟨rfl, by simp, by simp⟩
theorem Rk.succ {l : List UInt8} {k : Nat} {xs : List E} (h : Rk tx good l k xs) {p : List UInt8} (hp : (cutL 44 l)[k]? = some p) {n : E} (h1 : good n) (h2 : tx n = p) : Rk tx good l (k + 1) (xs ++ [n]) := by
  refine ⟨by rw [List.length_append, h.len]; rfl, fun m hm => ?_, ?_⟩
  · rcases List.mem_append.1 hm with hm | hm
    · exact h.v m hm
    · rw [List.mem_singleton.1 hm]; exact h1
  · rw [List.map_append, h.e, List.take_add_one, hp, List.map_cons, List.map_nil, h2]
    rfl
theorem Rk.all {l : List UInt8} {k : Nat} {xs : List E} (h : Rk tx good l k xs) (hne : l ≠ noneL) (hk : (cutL 44 l).length = k) (hM : k ≤ M) : R tx good M l xs true := by
  refine .inr (.inl ⟨hne, rfl, by omega, h.v, ?_⟩)
  rw [h.e, List.take_of_length_le (by omega)]
/-- What is read off one part. -/
def One (tx : E → List UInt8) (good : E → Prop) (p : List UInt8) (x : E) (ok : Bool) : Prop := (ok = true ∧ good x ∧ tx x = p) ∨ (ok = false ∧ No tx good p)
end

/-- A number's bits that stand for themselves. -/
def Good (x : Nat) : Prop := x < 4294967296 ∧ bitsI x = (x : Int)
theorem good_inj (a b : Nat) (ha : Good a) (hb : Good b) (h : hexL a = hexL b) : a = b := by
  have h1 := vlH_hexL ha.1
  rw [h, vlH_hexL hb.1] at h1
  exact (Option.some.inj h1).symm
/-- The bits of a number stand for themselves. -/
theorem good_bits (b : Nat) (hb : b < 4294967296) : Good (bitsI b).toNat := by
  have h := bits_le b hb
  refine ⟨by omega, ?_⟩
  unfold bitsI at *
  by_cases hn : nan .f32 b = true
  · rw [if_pos hn]
    have e : nan .f32 2143289344 = true := by decide +kernel
    rw [show (2143289344 : Int).toNat = 2143289344 from rfl, if_pos e]; rfl
  · rw [if_neg hn]
    simp [hn]
abbrev One8 := One hexL Good
/-- Eight digits. -/
theorem One8.yes {p : List UInt8} (h8 : p.length = 8) {v : Nat} (hv : vlH 0 p = some v) (hb : bitsI v = (v : Int)) : One8 p v true :=
  .inl ⟨rfl, ⟨(hexL_vlH h8 hv).1, hb⟩, (hexL_vlH h8 hv).2⟩
theorem One8.len {p : List UInt8} (h8 : p.length ≠ 8) (x : Nat) : One8 p x false := .inr ⟨rfl, fun m _ e => h8 (by rw [← e]; exact hexL_len m)⟩
theorem One8.digit {p : List UInt8} (hv : vlH 0 p = none) (x : Nat) : One8 p x false := .inr ⟨rfl, fun m hm e => by
  have := vlH_hexL hm.1
  rw [e, hv] at this; cases this⟩
theorem One8.bits {p : List UInt8} {v : Nat} (hv : vlH 0 p = some v) (hb : bitsI v ≠ (v : Int)) (x : Nat) : One8 p x false := .inr ⟨rfl, fun m hm e => by
  have := vlH_hexL hm.1
  rw [e, hv] at this
  injection this with this
  subst this
  exact hb hm.2⟩
end Rg
end Go.Proofs.YtmlocepflcfkmaaDoor
