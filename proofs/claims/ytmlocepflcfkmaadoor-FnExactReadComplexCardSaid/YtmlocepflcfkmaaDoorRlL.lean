/-
  The numbers of a list with a text: the plain law. Conditions: none.
-/
import Derived.Test.YtmlocepflcfkmaaDoorCutL
import Derived.Test.YtmlocepflcfkmaaDoorRdL
namespace Go.Proofs.YtmlocepflcfkmaaDoor
namespace Dec
open Go.Lib Cut

/-- The text of no numbers. -/
def noneL : List UInt8 := [110, 111, 110, 101]
/-- No number has this text. -/
def NoNum (p : List UInt8) : Prop := ∀ m, Val m → itoa m ≠ p
/-- What is read off a text. -/
def Rl (l : List UInt8) (xs : List Int) (ok : Bool) : Prop :=
  (l = noneL ∧ ok = true ∧ xs = []) ∨
  (l ≠ noneL ∧ ok = true ∧ (cutL 44 l).length ≤ 64 ∧ (∀ n ∈ xs, Val n) ∧ xs.map itoa = cutL 44 l) ∨
  (l ≠ noneL ∧ ok = false ∧ xs = [] ∧ (64 < (cutL 44 l).length ∨ ∃ p ∈ cutL 44 l, NoNum p))
theorem map_vl {xs : List Int} : (xs.map itoa).map vl = xs := by
  rw [List.map_map]
  conv => rhs; rw [← List.map_id xs]
  exact List.map_congr_left (fun n _ => vl_itoa n)
theorem Rl.uniq {l : List UInt8} {xs ys : List Int} {a b : Bool} (h : Rl l xs a) (k : Rl l ys b) : xs = ys ∧ a = b := by
  rcases h with ⟨h1, h2, h3⟩ | ⟨h1, h2, h3, h4, h5⟩ | ⟨h1, h2, h3, h4⟩ <;> rcases k with ⟨k1, k2, k3⟩ | ⟨k1, k2, k3, k4, k5⟩ | ⟨k1, k2, k3, k4⟩
  · exact ⟨by rw [h3, k3], by rw [h2, k2]⟩
  · exact absurd h1 k1
  · exact absurd h1 k1
  · exact absurd k1 h1
  · exact ⟨by rw [← map_vl (xs := xs), ← map_vl (xs := ys), h5, k5], by rw [h2, k2]⟩
  · exfalso
    rcases k4 with k4 | ⟨p, hp, hq⟩
    · omega
    · rw [← h5, List.mem_map] at hp
      obtain ⟨n, hn, rfl⟩ := hp
      exact hq n (h4 n hn) rfl
  · exact absurd k1 h1
  · exfalso
    rcases h4 with h4 | ⟨p, hp, hq⟩
    · omega
    · rw [← k5, List.mem_map] at hp
      obtain ⟨n, hn, rfl⟩ := hp
      exact hq n (k4 n hn) rfl
  · exact ⟨by rw [h3, k3], by rw [h2, k2]⟩
theorem Rl.len {l : List UInt8} {xs : List Int} {a : Bool} (h : Rl l xs a) : xs.length ≤ 64 := by
  rcases h with ⟨_, _, h3⟩ | ⟨_, _, h3, _, h5⟩ | ⟨_, _, h3, _⟩
  · rw [h3]; exact Nat.zero_le _
  · rw [← h5, List.length_map] at h3; exact h3
  · rw [h3]; exact Nat.zero_le _
theorem sum_le {ps : List (List UInt8)} (h : ∀ p ∈ ps, p.length ≤ 17) : (ps.map List.length).sum ≤ ps.length * 17 := by
  induction ps with
  | nil => simp
  | cons p ps ih =>
    have h1 := h p (List.mem_cons_self ..)
    have h2 := ih (fun q hq => h q (List.mem_cons_of_mem _ hq))
    simp only [List.map_cons, List.sum_cons, List.length_cons]
    omega
/-- A text that is too long is refused. -/
theorem Rl.long {l : List UInt8} (hl : 1280 < l.length) : Rl l [] false := by
  have hne : l ≠ noneL := by rintro rfl; simp [noneL] at hl
  refine .inr (.inr ⟨hne, rfl, rfl, ?_⟩)
  by_cases h : 64 < (cutL 44 l).length
  · exact .inl h
  · right
    by_cases h2 : ∀ p ∈ cutL 44 l, p.length ≤ 17
    · have h3 := sum_le h2
      have h4 := cutL_sum 44 l
      omega
    · obtain ⟨p, h3⟩ := Classical.not_forall.1 h2
      obtain ⟨hp, h4⟩ := Classical.not_imp.1 h3
      exact ⟨p, hp, fun m hm e => h4 (by rw [← e]; exact (itoa_len hm).2)⟩
theorem Rl.none_ {l : List UInt8} (h : l = noneL) : Rl l [] true := .inl ⟨h, rfl, rfl⟩
theorem Rl.many {l : List UInt8} (h : l ≠ noneL) (h2 : 64 < (cutL 44 l).length) : Rl l [] false := .inr (.inr ⟨h, rfl, rfl, .inl h2⟩)
theorem Rl.bad {l : List UInt8} (h : l ≠ noneL) {p : List UInt8} (hp : p ∈ cutL 44 l) (hq : NoNum p) : Rl l [] false := .inr (.inr ⟨h, rfl, rfl, .inr ⟨p, hp, hq⟩⟩)
/-- The first k parts are read. -/
structure Rk (l : List UInt8) (k : Nat) (xs : List Int) : Prop where
  len : xs.length = k
  v : ∀ n ∈ xs, Val n
  e : xs.map itoa = (cutL 44 l).take k
theorem Rk.zero (l : List UInt8) : Rk l 0 [] := ⟨rfl, by simp, by simp⟩
theorem Rk.succ {l : List UInt8} {k : Nat} {xs : List Int} (h : Rk l k xs) {p : List UInt8} (hp : (cutL 44 l)[k]? = some p) {n : Int} (hr : Rd p n true) : Rk l (k + 1) (xs ++ [n]) := by
  rcases hr with ⟨_, h1, h2⟩ | ⟨h1, _⟩
  · refine ⟨by rw [List.length_append, h.len]; rfl, fun m hm => ?_, ?_⟩
    · rcases List.mem_append.1 hm with hm | hm
      · exact h.v m hm
      · rw [List.mem_singleton.1 hm]; exact h1
    · rw [List.map_append, h.e, List.take_add_one, hp, List.map_cons, List.map_nil, h2]
      rfl
  · cases h1
theorem Rk.all {l : List UInt8} {k : Nat} {xs : List Int} (h : Rk l k xs) (hne : l ≠ noneL) (hk : (cutL 44 l).length = k) (h64 : k ≤ 64) : Rl l xs true := by
  refine .inr (.inl ⟨hne, rfl, by omega, h.v, ?_⟩)
  rw [h.e, List.take_of_length_le (by omega)]
theorem Rd.bad {p : List UInt8} {n : Int} (h : Rd p n false) : NoNum p := by
  rcases h with ⟨h1, _⟩ | ⟨_, _, h2⟩
  · cases h1
  · exact h2
end Dec
end Go.Proofs.YtmlocepflcfkmaaDoor
