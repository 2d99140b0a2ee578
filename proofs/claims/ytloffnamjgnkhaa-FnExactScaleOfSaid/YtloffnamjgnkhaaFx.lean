/-
  A block of two cells that is known whole. Conditions: those that each theorem names.
-/
import Derived.Test.YtloffnamjgnkhaaGot
import Derived.Test.YtloffnamjgnkhaaValidI
import Derived.Laws.Rows
namespace Go.Proofs.Ytloffnamjgnkhaa
open Go.RowKit Mem

/-- Block p holds the two values. -/
structure Fx (w : World) (p : Nat) (t : TypeId) (u v : Value) : Prop where
  blk : w.heap[p]? = some (.cells #[u, v] t (0, 0))
section
variable {w w' : World} {p : Nat} {t : TypeId} {u v u' v' : Value} {T : List Nat}
theorem Fx.lt (h : Fx w p t u v) : p < w.heap.size := (Array.getElem?_eq_some_iff.1 h.blk).1
theorem Fx.c0 (h : Fx w p t u v) : w.cell? ⟨p, 0, none⟩ = some u := by rw [cell_of_row w p 0 _ t (0, 0) h.blk]; rfl
theorem Fx.c1 (h : Fx w p t u v) : w.cell? ⟨p, 1, none⟩ = some v := by rw [cell_of_row w p 1 _ t (0, 0) h.blk]; rfl
theorem Fx.f (h : Fx w p t u v) (j : Nat) : w.frozen? ⟨p, j, none⟩ = false := frozen_of_row w p j _ t h.blk
theorem Fx.new (w : World) (t : TypeId) (u v : Value) : Fx (w.alloc (.cells #[u, v] t)) w.heap.size t u v := ⟨heap_alloc_new w _⟩
theorem Fx.keep (h : Fx w p t u v) (hk : Kp T w w') (hn : p ∉ T) : Fx w' p t u v := ⟨(hk.block p h.lt hn).trans h.blk⟩
theorem Fx.kp (h : Fx w p t u v) (hk : Kp [] w w') : Fx w' p t u v := h.keep hk (by simp)
theorem Fx.set0 (h : Fx w p t u v) (x : Value) : Fx (w.setCell ⟨p, 0, none⟩ x) p t x v := ⟨by have := heap_setCell_same w p 0 _ t x h.blk; simpa using this⟩
theorem Fx.set1 (h : Fx w p t u v) (x : Value) : Fx (w.setCell ⟨p, 1, none⟩ x) p t u x := ⟨by have := heap_setCell_same w p 1 _ t x h.blk; simpa using this⟩
theorem Fx.bx {A B : Option Addr} {n c m d : Nat} (h : Fx w p t (.slice A n c) (.slice B m d)) : Bx w p A n c B m d := ⟨h.lt, h.c0, h.c1⟩
end
theorem Mem.Kp.set {T : List Nat} {w w' : World} (h : Kp T w w') (p : Nat) (j : Nat) (u : Value) : Kp (p :: T) w (w'.setCell ⟨p, j, none⟩ u) :=
  ⟨h.os, h.tape, h.output, by simpa [World.setCell] using h.size, fun i hi hn => (heap_setCell_other w' ⟨p, j, none⟩ i u (by intro e; exact hn (by simp [e]))).trans (h.block i hi (fun hh => hn (List.mem_cons_of_mem _ hh)))⟩
/-- A store into a block that came later. -/
theorem Mem.Kp.setNew {w w' : World} (h : Kp [] w w') (p : Nat) (hp : w.heap.size ≤ p) (j : Nat) (u : Value) : Kp [] w (w'.setCell ⟨p, j, none⟩ u) :=
  (h.set p j u).mono (by intro t ht hlt; simp at ht; omega)
/-- Blocks that came later turn. -/
theorem Mem.Kp.later {w w' w2 : World} {T : List Nat} (h : Kp [] w w') (k : Kp T w' w2) (hT : ∀ t ∈ T, w.heap.size ≤ t) : Kp [] w w2 :=
  (h.trans k).mono (by intro t ht hlt; have := hT t (by simpa using ht); omega)

/-- Is the scale in the box a good one? -/
theorem is_tell (A : Option Addr) (n c : Nat) (bs : List Int) (B : Option Addr) (m d : Nat) (rs : List Int) (p : Nat) (w : World) (hp0 : w.cell? ⟨p, 0, none⟩ = some (.slice A n c)) (hp1 : w.cell? ⟨p, 1, none⟩ = some (.slice B m d))
    (h : Sl w A n (valsI bs)) (h2 : Sl w B m (valsI rs)) (hn : n ≤ 1048576) (hm : m ≤ 1048576) :
    Calls Try.prog 59 #[.pointer (some ⟨p, 0, none⟩)] w (TellPost (OkS bs rs) w) :=
  (is_any A n c bs B m d rs p w hp0 hp1 h h2 hn hm).mono fun _ _ ⟨b, he, hb, q, hq⟩ => ⟨b, he, hb, by rw [hq]; exact Kp.of_draw q⟩

open Classical in
noncomputable def okb (P : Prop) : Bool := decide P
open Classical in
/-- The list where P holds, else none. -/
noncomputable def whenP (P : Prop) (xs : List Int) : List Int := if P then xs else []
theorem okb_yes {P : Prop} (h : P) : okb P = true := by simp [okb, h]
theorem okb_no {P : Prop} (h : ¬ P) : okb P = false := by simp [okb, h]
theorem whenP_yes {P : Prop} (h : P) (xs : List Int) : whenP P xs = xs := by simp [whenP, h]
theorem whenP_no {P : Prop} (h : ¬ P) (xs : List Int) : whenP P xs = [] := by simp [whenP, h]
theorem whenP_len {P : Prop} {xs : List Int} {n : Nat} (h : xs.length ≤ n) : (whenP P xs).length ≤ n := by
  by_cases hp : P
  · rw [whenP_yes hp]; exact h
  · rw [whenP_no hp]; exact Nat.zero_le _
/-- The reference refuses. -/
theorem SPost.no {P : Prop} (hp : ¬ P) {xs ys : List Int} {w w' : World} (hk : Kp [] w w') : SPost (whenP P xs) (whenP P ys) (okb P) w (.returned (.tuple #[.agg #[.slice none 0 0, .slice none 0 0], .bool false])) w' := by
  rw [whenP_no hp, whenP_no hp, okb_no hp]
  exact ⟨none, 0, none, 0, rfl, hk, Own2.nil _ _⟩
theorem SPost.yes {P : Prop} (hp : P) {xs ys : List Int} {w w' : World} {A : Option Addr} {c : Nat} {B : Option Addr} {d n m : Nat} (hk : Kp [] w w') (ho : Own2 w.heap.size w' A n c B m d xs ys) :
    SPost (whenP P xs) (whenP P ys) (okb P) w (.returned (.tuple #[.agg #[.slice A n c, .slice B m d], .bool true])) w' := by
  rw [whenP_yes hp, whenP_yes hp, okb_yes hp]
  have h1 := ho.len1
  have h2 := ho.len2
  subst h1 h2
  exact ⟨A, c, B, d, rfl, hk, ho⟩
end Go.Proofs.Ytloffnamjgnkhaa
