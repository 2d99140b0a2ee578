/-
  A text cut at each mark: the plain law; the library's splitting is this cutting. Conditions: those that each theorem names.
-/
import Derived.Lib.SplitLaws
namespace Go.Proofs.YtmlocepflcfkmaaDoor
namespace Cut
open Go.Lib

/-- The parts between marks. -/
def cutL (c : UInt8) : List UInt8 → List (List UInt8)
  | [] => [[]]
  | b :: l => if b = c then [] :: cutL c l else match cutL c l with
    | [] => [[b]]
    | x :: xs => (b :: x) :: xs
theorem cutL_step {c : UInt8} {r : List UInt8} : ∀ {p : List UInt8}, c ∉ p → cutL c (p ++ c :: r) = p :: cutL c r
  | [], _ => by simp [cutL]
  | b :: p, h => by
    have hb : ¬ b = c := fun e => h (by simp [e])
    have ih := cutL_step (r := r) (p := p) (fun hh => h (List.mem_cons_of_mem _ hh))
    rw [List.cons_append, cutL, if_neg hb, ih]
theorem cutL_none {c : UInt8} : ∀ {p : List UInt8}, c ∉ p → cutL c p = [p]
  | [], _ => rfl
  | b :: p, h => by
    have hb : ¬ b = c := fun e => h (by simp [e])
    have ih := cutL_none (p := p) (fun hh => h (List.mem_cons_of_mem _ hh))
    rw [cutL, if_neg hb, ih]
theorem cutL_count (c : UInt8) : ∀ l : List UInt8, (cutL c l).length = l.count c + 1
  | [] => rfl
  | b :: l => by
    have ih := cutL_count c l
    unfold cutL
    by_cases h : b = c
    · subst h
      rw [if_pos rfl, List.length_cons, ih, List.count_cons_self]
    · rw [if_neg h, List.count_cons_of_ne (by simpa using h)]
      cases he : cutL c l with
      | nil => rw [he] at ih; simp at ih
      | cons x xs => rw [he] at ih; simpa using ih

theorem split_cut (c : UInt8) : ∀ l : List UInt8, splitK [c] 0 (count l [c]) l = cutL c l
  | [] => by rw [count_miss (by simp [index])]; rfl
  | b :: t => by
    have ih := split_cut c t
    by_cases h : b = c
    · subst h
      have hix : index (b :: t) [b] = 0 := by rw [index]; simp [List.isPrefixOf]
      rw [count_cons_eq, Nat.add_comm, splitK, if_neg (by rw [hix]; decide), hix, cutL, if_pos rfl, ← ih]
      simp
    · have hp : ([c] : List UInt8).isPrefixOf (b :: t) = false := by simp [List.isPrefixOf, Ne.symm h]
      have hix : index (b :: t) [c] = if index t [c] == -1 then -1 else index t [c] + 1 := by rw [index, hp]; simp
      rw [count_cons_ne b c t h, cutL, if_neg h, ← ih]
      by_cases hm : index t [c] = -1
      · rw [count_miss hm]; rfl
      · have hge := index_ge t [c]
        obtain ⟨j, hj⟩ : ∃ j : Nat, index t [c] = j := ⟨(index t [c]).toNat, by omega⟩
        have hix' : index (b :: t) [c] = ((j + 1 : Nat) : Int) := by rw [hix, if_neg (fun e => hm (beq_iff_eq.1 e)), hj]; omega
        rw [count_hit (by simp) hj, Nat.add_comm 1, splitK, splitK, if_neg (fun e => by have := beq_iff_eq.1 e; omega), if_neg (fun e => by have := beq_iff_eq.1 e; omega), hix', hj]
        simp

/-- The library's pieces. -/
theorem splitB_cut (s : ByteArray) (c : UInt8) : (splitB ⟨#[c]⟩ 0 (countB s ⟨#[c]⟩) s).map (·.data.toList) = cutL c s.data.toList := by
  rw [splitB_data]
  exact split_cut c _
theorem countB_cut (s : ByteArray) (c : UInt8) : countB s ⟨#[c]⟩ + 1 = (cutL c s.data.toList).length := by
  rw [cutL_count]
  congr 1
  exact count_one c _
theorem cutL_len (c : UInt8) (l : List UInt8) : (cutL c l).length ≤ l.length + 1 := by
  rw [cutL_count]
  have := List.count_le_length (a := c) (l := l)
  omega
/-- All parts together are not longer than the text. -/
theorem cutL_sum (c : UInt8) : ∀ l : List UInt8, ((cutL c l).map List.length).sum + (cutL c l).length = l.length + 1
  | [] => rfl
  | b :: l => by
    have ih := cutL_sum c l
    unfold cutL
    by_cases h : b = c
    · subst h
      rw [if_pos rfl]
      simp only [List.map_cons, List.sum_cons, List.length_nil, List.length_cons]
      omega
    · rw [if_neg h]
      cases he : cutL c l with
      | nil => rw [he] at ih; simp at ih
      | cons x xs =>
        rw [he] at ih
        simp only [List.map_cons, List.sum_cons, List.length_cons] at ih ⊢
        omega

/-- How far the cutting has come: k bytes are looked at, the part under way began at f. -/
def At (c : UInt8) (l : List UInt8) (k f : Nat) (P : List (List UInt8)) : Prop :=
  (k ≤ l.length ∧ f ≤ k ∧ c ∉ (l.drop f).take (k - f) ∧ cutL c l = P ++ cutL c (l.drop f)) ∨ (k = l.length + 1 ∧ cutL c l = P)
theorem At.zero (c : UInt8) (l : List UInt8) : At c l 0 0 [] := .inl ⟨Nat.zero_le _, Nat.le_refl _, by simp, by simp⟩
theorem drop_parts {l : List UInt8} {f k : Nat} {b : UInt8} (h : f ≤ k) (hb : l[k]? = some b) : l.drop f = (l.drop f).take (k - f) ++ b :: l.drop (k + 1) := by
  have hk : k < l.length := (List.getElem?_eq_some_iff.1 hb).1
  have e : l.drop k = b :: l.drop (k + 1) := by
    rw [List.drop_eq_getElem_cons hk]
    congr 1
    exact Option.some.inj ((List.getElem?_eq_getElem hk).symm.trans hb)
  rw [← e]
  conv => lhs; rw [← List.take_append_drop (k - f) (l.drop f)]
  rw [List.drop_drop, show f + (k - f) = k by omega]
theorem At.mark {c : UInt8} {l : List UInt8} {k f : Nat} {P : List (List UInt8)} (h : At c l k f P) (hb : l[k]? = some c) : f ≤ k ∧ At c l (k + 1) (k + 1) (P ++ [(l.drop f).take (k - f)]) := by
  have hk : k < l.length := (List.getElem?_eq_some_iff.1 hb).1
  rcases h with ⟨h1, h2, h3, h4⟩ | ⟨h1, _⟩
  · refine ⟨h2, .inl ⟨hk, Nat.le_refl _, by simp, ?_⟩⟩
    rw [h4, drop_parts h2 hb, cutL_step h3, List.append_assoc, ← drop_parts h2 hb]
    rfl
  · omega
theorem At.other {c : UInt8} {l : List UInt8} {k f : Nat} {P : List (List UInt8)} {b : UInt8} (h : At c l k f P) (hb : l[k]? = some b) (hne : ¬ b = c) : At c l (k + 1) f P := by
  have hk : k < l.length := (List.getElem?_eq_some_iff.1 hb).1
  rcases h with ⟨h1, h2, h3, h4⟩ | ⟨h1, _⟩
  · refine .inl ⟨hk, by omega, ?_, h4⟩
    rw [show k + 1 - f = k - f + 1 by omega, List.take_add_one, List.mem_append]
    rintro (hh | hh)
    · exact h3 hh
    · rw [List.getElem?_drop, show f + (k - f) = k by omega, hb] at hh
      simp at hh
      exact hne hh.symm
  · omega
theorem At.end_ {c : UInt8} {l : List UInt8} {f : Nat} {P : List (List UInt8)} (h : At c l l.length f P) : f ≤ l.length ∧ At c l (l.length + 1) (l.length + 1) (P ++ [(l.drop f).take (l.length - f)]) := by
  rcases h with ⟨h1, h2, h3, h4⟩ | ⟨h1, _⟩
  · refine ⟨h2, .inr ⟨rfl, ?_⟩⟩
    have e : (l.drop f).take (l.length - f) = l.drop f := List.take_of_length_le (by simp)
    rw [e] at h3 ⊢
    rw [h4, cutL_none h3]
  · omega
theorem At.all {c : UInt8} {l : List UInt8} {f : Nat} {P : List (List UInt8)} (h : At c l (l.length + 1) f P) : cutL c l = P := by
  rcases h with ⟨h1, _⟩ | ⟨_, h2⟩
  · omega
  · exact h2
theorem At.len {c : UInt8} {l : List UInt8} {k f : Nat} {P : List (List UInt8)} (h : At c l k f P) : P.length ≤ l.length + 1 := by
  have := cutL_len c l
  rcases h with ⟨_, _, _, h4⟩ | ⟨_, h2⟩
  · rw [h4, List.length_append] at this
    omega
  · rw [h2] at this
    exact this
theorem At.lt {c : UInt8} {l : List UInt8} {k f : Nat} {P : List (List UInt8)} (h : At c l k f P) (hk : k ≤ l.length) : f ≤ k := by
  rcases h with ⟨_, h2, _⟩ | ⟨h1, _⟩
  · exact h2
  · omega
theorem ext_data (s : ByteArray) (f k : Nat) : (s.extract f k).data.toList = (s.data.toList.drop f).take (k - f) := extract_data s f k
end Cut
end Go.Proofs.YtmlocepflcfkmaaDoor
