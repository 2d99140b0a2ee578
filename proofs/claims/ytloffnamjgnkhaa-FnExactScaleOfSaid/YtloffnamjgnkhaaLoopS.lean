/-
  A loop that turns each element of an owned list where it lies. Conditions: those that each theorem names.
-/
import Derived.Test.YtloffnamjgnkhaaMapped
namespace Go.Proofs.Ytloffnamjgnkhaa
open Go.RowKit Mem

/-- The first k are mapped. -/
def mapK (g : Int → Int) (xs : List Int) (k : Nat) : List Int := (xs.take k).map g ++ xs.drop k
theorem mapK_zero (g : Int → Int) (xs : List Int) : mapK g xs 0 = xs := by simp [mapK]
theorem mapK_all (g : Int → Int) (xs : List Int) : mapK g xs xs.length = xs.map g := by simp [mapK]
theorem mapK_len (g : Int → Int) (xs : List Int) (k : Nat) : (mapK g xs k).length = xs.length := by simp [mapK]; omega
theorem mapK_at (g : Int → Int) {xs : List Int} {k : Nat} {x : Int} (hx : xs[k]? = some x) : (mapK g xs k)[k]? = some x := by
  have hl : k < xs.length := (List.getElem?_eq_some_iff.1 hx).1
  unfold mapK
  rw [List.getElem?_append_right (by simp; omega)]
  simp only [List.length_map, List.length_take, Nat.min_eq_left (Nat.le_of_lt hl), Nat.sub_self, List.getElem?_drop, Nat.add_zero, hx]
theorem mapK_succ (g : Int → Int) {xs : List Int} {k : Nat} {x : Int} (hx : xs[k]? = some x) : (mapK g xs k).set k (g x) = mapK g xs (k + 1) := by
  have hl : k < xs.length := (List.getElem?_eq_some_iff.1 hx).1
  have e : xs.drop k = x :: xs.drop (k + 1) := by
    rw [List.drop_eq_getElem_cons hl]
    congr 1
    exact Option.some.inj ((List.getElem?_eq_getElem hl).symm.trans hx)
  unfold mapK
  rw [List.set_append, if_neg (by simp; omega), e]
  simp only [List.length_map, List.length_take, Nat.min_eq_left (Nat.le_of_lt hl), Nat.sub_self, List.set_cons_zero]
  rw [List.take_add_one, hx]
  simp

/-- An element of an owned list: where it lies, and what its turning leaves. -/
theorem Own.elem {Bd : Nat} {w : World} {A : Option Addr} {n c : Nat} {xs : List Int} (h : Own Bd w (.slice A n c) xs) {j : Nat} (hj : j < n) {x : Int} (hx : xs[j]? = some x) :
    ∃ g, A = some ⟨g, 0, none⟩ ∧ Bd ≤ g ∧ g < w.heap.size ∧ w.cell? ⟨g, j, none⟩ = some (.int .i64 x) ∧ w.frozen? ⟨g, j, none⟩ = false ∧ ∀ v, Own Bd (w.setCell ⟨g, j, none⟩ (.int .i64 v)) (.slice A n c) (xs.set j v) := by
  obtain ⟨g, rfl, h1, h2⟩ := h.some_ (by omega)
  have hl := h.len
  have ho : w.ownsRow Bd 2 1 (.slice (some ⟨g, 0, none⟩) n c) n (valsI xs) := by unfold Own at h; rwa [hl] at h
  refine ⟨g, rfl, h1, h2, ?_, World.ownsRow.frozenAt ho j, fun v => ?_⟩
  · rw [World.ownsRow.cellAt ho j (by omega)]
    simp [valsI, hx]
  · have := (World.ownsRow.stored ho j (.int .i64 v)).1
    unfold Own
    rw [List.length_set, hl]
    have e : (valsI xs).set j (.int .i64 v) = valsI (xs.set j v) := by simp [valsI, List.map_set]
    rwa [e] at this

/-- The state of the loop. -/
structure LpS (w wr : World) (p : Nat) (A : Option Addr) (n c : Nat) (B : Option Addr) (m d : Nat) (xs ys : List Int) : Prop where
  k : Kp [] w wr
  res : Fx wr (w.heap.size + 1) 27 (.slice none 0 0) (.slice none 0 0)
  box : Fx wr p 27 (.slice A n c) (.slice B m d)
  own : Own2 (w.heap.size + 2) wr A n c B m d xs ys
  far : p ∉ bl A B
theorem LpS.kp {w wr wr' : World} {p : Nat} {A : Option Addr} {n c : Nat} {B : Option Addr} {m d : Nat} {xs ys : List Int} (h : LpS w wr p A n c B m d xs ys) (hk : Kp [] wr wr') : LpS w wr' p A n c B m d xs ys :=
  ⟨h.k.tr hk, h.res.kp hk, h.box.kp hk, h.own.kp0 hk, h.far⟩
theorem LpS.set1 {w wr : World} {p : Nat} {A : Option Addr} {n c : Nat} {B : Option Addr} {m d : Nat} {xs ys : List Int} (h : LpS w wr p A n c B m d xs ys) {g j : Nat} (hA : A = some ⟨g, 0, none⟩) {v : Int}
    (ho : Own (w.heap.size + 2) (wr.setCell ⟨g, j, none⟩ (.int .i64 v)) (.slice A n c) (xs.set j v)) : LpS w (wr.setCell ⟨g, j, none⟩ (.int .i64 v)) p A n c B m d (xs.set j v) ys := by
  have hg : g ∈ bl A B := by subst hA; simp [bl]
  have hg2 := h.own.lt g hg
  have hk := (Kp.refl wr).set g j (.int .i64 v)
  refine ⟨h.k.setNew _ (by omega) _ _, h.res.keep hk (by simp; omega), h.box.keep hk ?_, ⟨ho, h.own.o2.kp hk ?_, h.own.ne⟩, h.far⟩
  · intro hh; simp at hh; subst hh; exact h.far hg
  · intro k hk' hh
    simp at hh
    subst hh hA
    cases B with
    | none => cases hk'
    | some b => injection hk' with hk'; exact h.own.ne _ b rfl rfl hk'.symm
theorem LpS.set2 {w wr : World} {p : Nat} {A : Option Addr} {n c : Nat} {B : Option Addr} {m d : Nat} {xs ys : List Int} (h : LpS w wr p A n c B m d xs ys) {g j : Nat} (hB : B = some ⟨g, 0, none⟩) {v : Int}
    (ho : Own (w.heap.size + 2) (wr.setCell ⟨g, j, none⟩ (.int .i64 v)) (.slice B m d) (ys.set j v)) : LpS w (wr.setCell ⟨g, j, none⟩ (.int .i64 v)) p A n c B m d xs (ys.set j v) := by
  have hg : g ∈ bl A B := by subst hB; simp [bl]
  have hg2 := h.own.lt g hg
  have hk := (Kp.refl wr).set g j (.int .i64 v)
  refine ⟨h.k.setNew _ (by omega) _ _, h.res.keep hk (by simp; omega), h.box.keep hk ?_, ⟨h.own.o1.kp hk ?_, ho, h.own.ne⟩, h.far⟩
  · intro hh; simp at hh; subst hh; exact h.far hg
  · intro k hk' hh
    simp at hh
    subst hh hB
    cases A with
    | none => cases hk'
    | some a => injection hk' with hk'; exact h.own.ne a _ rfl rfl hk'
/-- The world, but for one store. -/
def StM (W1 : World) (s : Bool) (a : Addr) (v : Value) (w : World) : Prop := ∃ wo, Kp [] W1 wo ∧ w = if s then wo.setCell a v else wo
theorem StM.no {W1 : World} {a : Addr} {v : Value} {w : World} (h : StM W1 false a v w) : Kp [] W1 w := by
  obtain ⟨wo, hk, rfl⟩ := h; exact hk
theorem mem_bd {rs : List Int} {lo hi : Int} (h : ∀ i, i < rs.length → lo ≤ rs.getD i 0 ∧ rs.getD i 0 ≤ hi) {x : Int} (hx : x ∈ rs) : lo ≤ x ∧ x ≤ hi := by
  obtain ⟨i, hi', rfl⟩ := List.getElem_of_mem hx
  have := h i hi'
  simpa [List.getD, hi'] using this
end Go.Proofs.Ytloffnamjgnkhaa
