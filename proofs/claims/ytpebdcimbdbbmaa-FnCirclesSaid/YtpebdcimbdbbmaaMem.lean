/-
  Words for memory: a slice that reads as a list; what is kept when only new blocks, or named ones, are written. Conditions: those that each theorem names.
-/
import Derived.WalkKit
import Derived.WalkLawsBesides
import Derived.Deep.Draws
import Derived.Laws.OwnMore
import Derived.Laws.MakeOwn
namespace Go.Proofs.Ytpebdcimbdbbmaa
namespace Mem
open Go Go.RowKit

/-- The slice value '.slice A n c' reads as the cells xs. -/
def Sl (w : World) (A : Option Addr) (n : Nat) (xs : List Value) : Prop :=
  xs.length = n ∧ (0 < n → ∃ b off, A = some ⟨b, off, none⟩ ∧ b < w.heap.size ∧ ∀ (j : Nat) (u : Value), xs[j]? = some u → w.cell? ⟨b, off + j, none⟩ = some u)

/-- Nothing that was there has turned but the blocks of T. -/
structure Kp (T : List Nat) (w w' : World) : Prop where
  os : w'.os = w.os
  tape : w'.tape = w.tape
  output : w'.output = w.output
  size : w.heap.size ≤ w'.heap.size
  block : ∀ k, k < w.heap.size → k ∉ T → w'.heap[k]? = w.heap[k]?

section
variable {w w' w2 : World} {A : Option Addr} {n : Nat} {xs : List Value} {T S : List Nat}

theorem Kp.refl (w : World) : Kp [] w w := ⟨rfl, rfl, rfl, Nat.le_refl _, fun _ _ _ => rfl⟩
theorem Kp.trans (h : Kp T w w') (k : Kp S w' w2) : Kp (T ++ S) w w2 :=
  ⟨k.os.trans h.os, k.tape.trans h.tape, k.output.trans h.output, Nat.le_trans h.size k.size, fun i hi hn => by
    have h1 := h.block i hi (fun hh => hn (List.mem_append_left _ hh))
    have h2 := k.block i (Nat.lt_of_lt_of_le hi h.size) (fun hh => hn (List.mem_append_right _ hh))
    exact h2.trans h1⟩
theorem Kp.tr (h : Kp [] w w') (k : Kp [] w' w2) : Kp [] w w2 := h.trans k
theorem Kp.drewN (h : Kp T w w') (m : Nat) : Kp T w (w'.drewN m) := ⟨h.os, h.tape, h.output, h.size, h.block⟩
theorem Kp.drew (h : Kp T w w') : Kp T w w'.drew := ⟨h.os, h.tape, h.output, h.size, h.block⟩
theorem Kp.alloc (h : Kp T w w') (o : Obj) : Kp T w (w'.alloc o) :=
  ⟨h.os, h.tape, h.output, Nat.le_trans h.size (by simp), fun i hi hn => (Below.heap_alloc w' o i (Nat.lt_of_lt_of_le hi h.size)).trans (h.block i hi hn)⟩
theorem Kp.new (h : Kp T w w') (p : Addr) (hp : w.heap.size ≤ p.block) (u : Value) : Kp T w (w'.setCell p u) :=
  ⟨h.os, h.tape, h.output, by simpa [World.setCell] using h.size, fun i hi hn => (Below.heap_setCell w' p u i (by omega)).trans (h.block i hi hn)⟩
theorem Kp.below (h : Kp T w w') (ht : ∀ t ∈ T, w2.heap.size ≤ t) (hb : Below w2.heap.size w2 w) : Below w2.heap.size w2 w' :=
  hb.trans ⟨h.os, h.tape, h.output, h.size, fun k hk => h.block k (Nat.lt_of_lt_of_le hk hb.size) (fun hh => by have := ht k hh; omega)⟩
theorem Kp.below0 (h : Kp [] w w') : Below w.heap.size w w' := ⟨h.os, h.tape, h.output, h.size, fun k hk => h.block k hk (by simp)⟩
theorem Kp.mono (h : Kp T w w') (hs : ∀ t ∈ T, t < w.heap.size → t ∈ S) : Kp S w w' := ⟨h.os, h.tape, h.output, h.size, fun k hk hn => h.block k hk (fun hh => hn (hs k hh hk))⟩
theorem Kp.cell (h : Kp T w w') {p : Addr} (hp : p.block < w.heap.size) (hn : p.block ∉ T) : w'.cell? p = w.cell? p := World.cell?_of_block (h.block _ hp hn)
theorem Kp.of_below (h : Below w.heap.size w w') : Kp [] w w' := ⟨h.os, h.tape, h.output, h.size, fun k hk _ => h.block k hk⟩
theorem Kp.of_draw (m : Nat) : Kp [] w (w.drewN m) := (Kp.refl w).drewN m

theorem Sl.nil : Sl w A 0 [] := ⟨rfl, fun h => absurd h (by omega)⟩
theorem Sl.len (h : Sl w A n xs) : xs.length = n := h.1
theorem Sl.at_ {k : Nat} (h : Sl w A n xs) (hk : k < n) : ∃ b off u, A = some ⟨b, off, none⟩ ∧ b < w.heap.size ∧ xs[k]? = some u ∧ w.cell? ⟨b, off + k, none⟩ = some u := by
  obtain ⟨b, off, e, hb, hc⟩ := h.2 (by omega)
  have hl : k < xs.length := by have := h.1; omega
  exact ⟨b, off, xs[k], e, hb, List.getElem?_eq_getElem hl, hc k _ (List.getElem?_eq_getElem hl)⟩
/-- Where it lies: below the heap's end, outside T. -/
def Off (A : Option Addr) (T : List Nat) : Prop := ∀ a, A = some a → a.block ∉ T
theorem Off.nil : Off A [] := fun _ _ => by simp
theorem Sl.keep (h : Sl w A n xs) (hk : Kp T w w') (ho : Off A T) : Sl w' A n xs :=
  ⟨h.1, fun hn => by
    obtain ⟨b, off, e, hb, hc⟩ := h.2 hn
    exact ⟨b, off, e, Nat.lt_of_lt_of_le hb hk.size, fun j u hu => (hk.cell (p := ⟨b, off + j, none⟩) hb (ho ⟨b, off, none⟩ e)).trans (hc j u hu)⟩⟩
theorem Sl.kp (h : Sl w A n xs) (hk : Kp [] w w') : Sl w' A n xs := h.keep hk Off.nil
theorem Sl.drewN (h : Sl w A n xs) (m : Nat) : Sl (w.drewN m) A n xs := h
theorem Sl.drew (h : Sl w A n xs) : Sl w.drew A n xs := h
theorem Sl.alloc (h : Sl w A n xs) (o : Obj) : Sl (w.alloc o) A n xs := h.kp ((Kp.refl w).alloc o)
end

/-- A block that is known from its first cell on: xs, then some cells more. -/
def Row (w : World) (g : Nat) (t : TypeId) (xs : List Value) : Prop := ∃ ys, w.heap[g]? = some (.cells (xs ++ ys).toArray t (0, 0))

section
variable {w w' w2 : World} {g : Nat} {t : TypeId} {xs : List Value} {T S : List Nat}
theorem Row.lt (h : Row w g t xs) : g < w.heap.size := by
  obtain ⟨ys, h⟩ := h
  rcases Nat.lt_or_ge g w.heap.size with hlt | hge
  · exact hlt
  · rw [Array.getElem?_eq_none hge] at h; cases h
theorem Row.keep (h : Row w g t xs) (hk : Kp T w w') (hg : g ∉ T) : Row w' g t xs := by
  obtain ⟨ys, h1⟩ := h
  exact ⟨ys, (hk.block g (Row.lt ⟨ys, h1⟩) hg).trans h1⟩
theorem Row.kp (h : Row w g t xs) (hk : Kp [] w w') : Row w' g t xs := h.keep hk (by simp)
theorem Row.drewN (h : Row w g t xs) (m : Nat) : Row (w.drewN m) g t xs := h
theorem Row.sl (h : Row w g t xs) {n : Nat} (hn : xs.length = n) : Sl w (some ⟨g, 0, none⟩) n xs := by
  refine ⟨hn, fun _ => ⟨g, 0, rfl, h.lt, fun j u hu => ?_⟩⟩
  obtain ⟨ys, h1⟩ := h
  rw [Nat.zero_add, cell_of_row w g j _ t (0, 0) h1]
  have hj : j < xs.length := (List.getElem?_eq_some_iff.1 hu).1
  simp [List.getElem?_append_left hj, hu]
theorem Row.new (w : World) (t : TypeId) (xs : List Value) : Row (w.alloc (.cells xs.toArray t)) w.heap.size t xs := ⟨[], by rw [List.append_nil]; exact heap_alloc_new w _⟩
theorem Row.frozen (h : Row w g t xs) (j : Nat) : w.frozen? ⟨g, j, none⟩ = false := by
  obtain ⟨ys, h1⟩ := h
  simp [World.frozen?, h1]
end
end Mem
end Go.Proofs.Ytpebdcimbdbbmaa
