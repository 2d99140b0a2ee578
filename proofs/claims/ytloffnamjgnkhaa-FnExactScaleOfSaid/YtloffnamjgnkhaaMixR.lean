/-
  The region that makes two slices by calls, builds a scale of them and hands it on: what holds by how far it has come. Conditions: those that each theorem names.
-/
import Derived.Test.YtloffnamjgnkhaaLoopS
namespace Go.Proofs.Ytloffnamjgnkhaa
open Go.RowKit Mem Flo
open Go.Proofs.Ytloffnamjgnkhaa.Inv

abbrev nilS : Value := .agg #[.slice none 0 0, .slice none 0 0]
structure MxS (W1 : World) (p n m : Nat) (xs ys : List Int) (t : TypeId) (u d1 d2 d7 d8 d9 ds : Bool) (f1 f2 f22 f23 f24 : Value) (w : World) : Prop where
  k : Kp [p] W1 w
  c1 : d1 = true → ∃ A c, f1 = .slice A n c ∧ Own W1.heap.size w (.slice A n c) xs
  c2 : d2 = true → ∃ B d, f2 = .slice B m d ∧ Own W1.heap.size w (.slice B m d) ys
  ap : d1 = true → d2 = true → ∀ k, f1.ownBlock = some k → f2.ownBlock ≠ some k
  bd : d7 = true → f22 = .agg #[f1, f2]
  sc : d8 = true → f23 = .tuple #[if u then f22 else nilS, .bool u]
  e0 : d9 = true → f24 = if u then f22 else nilS
  res : Fx w p t (if ds && u then f1 else .slice none 0 0) (if ds && u then f2 else .slice none 0 0)

section
variable {W1 : World} {p n m : Nat} {xs ys : List Int} {t : TypeId} {u d1 d2 d7 d8 d9 ds : Bool} {f1 f2 f22 f23 f24 : Value} {w w' : World} {A B : Option Addr} {c d : Nat}
theorem MxS.start (h : Fx W1 p t (.slice none 0 0) (.slice none 0 0)) : MxS W1 p n m xs ys t u false false false false false false f1 f2 f22 f23 f24 W1.drew :=
  ⟨((Kp.refl W1).drew).mono (by simp), fun h => (by cases h), fun h => (by cases h), fun h => (by cases h), fun h => (by cases h), fun h => (by cases h), fun h => (by cases h), h.kp ((Kp.refl W1).drew)⟩
theorem MxS.call1 (h : MxS W1 p n m xs ys t u false d2 false false false false f1 f2 f22 f23 f24 w) (hk : Kp [] w w') (ho : Own w.heap.size w' (.slice A n c) xs) :
    MxS W1 p n m xs ys t u true d2 false false false false (.slice A n c) f2 f22 f23 f24 w' := by
  refine ⟨(h.k.trans hk).mono (by intro t ht _; simpa using ht), fun _ => ⟨A, c, rfl, ho.mono h.k.size⟩, fun hd => ?_, fun _ hd k hk1 hk2 => ?_, fun h => (by cases h), fun h => (by cases h), fun h => (by cases h), h.res.kp hk⟩
  · obtain ⟨B, d, e, o⟩ := h.c2 hd
    exact ⟨B, d, e, o.kp0 hk⟩
  · obtain ⟨B, d, rfl, o⟩ := h.c2 hd
    have q1 := (ho.lt k hk1).1
    have q2 := (o.lt k hk2).2
    omega
theorem MxS.call2 (h : MxS W1 p n m xs ys t u d1 false false false false false f1 f2 f22 f23 f24 w) (hk : Kp [] w w') (ho : Own w.heap.size w' (.slice B m d) ys) :
    MxS W1 p n m xs ys t u d1 true false false false false f1 (.slice B m d) f22 f23 f24 w' := by
  refine ⟨(h.k.trans hk).mono (by intro t ht _; simpa using ht), fun hd => ?_, fun _ => ⟨B, d, rfl, ho.mono h.k.size⟩, fun hd _ k hk1 hk2 => ?_, fun h => (by cases h), fun h => (by cases h), fun h => (by cases h), h.res.kp hk⟩
  · obtain ⟨A, c, e, o⟩ := h.c1 hd
    exact ⟨A, c, e, o.kp0 hk⟩
  · obtain ⟨A, c, rfl, o⟩ := h.c1 hd
    have q1 := (ho.lt k hk2).1
    have q2 := (o.lt k hk1).2
    omega
theorem MxS.build (h : MxS W1 p n m xs ys t u true true false false false false f1 f2 f22 f23 f24 w) : MxS W1 p n m xs ys t u true true true false false false f1 f2 (.agg #[f1, f2]) f23 f24 w :=
  ⟨h.k, h.c1, h.c2, h.ap, fun _ => rfl, fun h => (by cases h), fun h => (by cases h), h.res⟩
theorem MxS.scaled (h : MxS W1 p n m xs ys t u true true true false false false f1 f2 f22 f23 f24 w) (hk : Kp [] w w') : MxS W1 p n m xs ys t u true true true true false false f1 f2 f22 (.tuple #[if u then f22 else nilS, .bool u]) f24 w' := by
  refine ⟨(h.k.trans hk).mono (by intro t ht _; simpa using ht), fun hd => ?_, fun hd => ?_, h.ap, h.bd, fun _ => rfl, fun h => (by cases h), h.res.kp hk⟩
  · obtain ⟨A, c, e, o⟩ := h.c1 hd
    exact ⟨A, c, e, o.kp0 hk⟩
  · obtain ⟨B, d, e, o⟩ := h.c2 hd
    exact ⟨B, d, e, o.kp0 hk⟩
theorem MxS.ext (h : MxS W1 p n m xs ys t u true true true true false false f1 f2 f22 f23 f24 w) : MxS W1 p n m xs ys t u true true true true true false f1 f2 f22 f23 (if u then f22 else nilS) w :=
  ⟨h.k, h.c1, h.c2, h.ap, h.bd, h.sc, fun _ => rfl, by simpa using h.res⟩
theorem MxS.store (h : MxS W1 p n m xs ys t u true true true true true false f1 f2 f22 f23 f24 w) (hp : p < W1.heap.size) :
    MxS W1 p n m xs ys t u true true true true true true f1 f2 f22 f23 f24 ((w.setCell ⟨p, 0, none⟩ (if u then f1 else .slice none 0 0)).setCell ⟨p, 1, none⟩ (if u then f2 else .slice none 0 0)) := by
  have hk := ((Kp.refl w).set p 0 (if u then f1 else .slice none 0 0)).set p 1 (if u then f2 else .slice none 0 0)
  refine ⟨(h.k.trans hk).mono (by intro t ht _; simpa using ht), fun hd => ?_, fun hd => ?_, h.ap, h.bd, h.sc, h.e0, ?_⟩
  · obtain ⟨A, c, e, o⟩ := h.c1 hd
    exact ⟨A, c, e, o.kp hk (fun k hk' hh => by have := (o.lt k hk').1; simp at hh; omega)⟩
  · obtain ⟨B, d, e, o⟩ := h.c2 hd
    exact ⟨B, d, e, o.kp hk (fun k hk' hh => by have := (o.lt k hk').1; simp at hh; omega)⟩
  · have := (h.res.set0 (if u then f1 else .slice none 0 0)).set1 (if u then f2 else .slice none 0 0)
    simpa using this
end
theorem okb_iff {P : Prop} {b : Bool} (h : b = true ↔ P) : b = okb P := by
  cases b
  · exact (okb_no (fun hp => by have := h.2 hp; cases this)).symm
  · exact (okb_yes (h.1 rfl)).symm
theorem okb_true {P : Prop} (h : okb P = true) : P := by
  by_cases hp : P
  · exact hp
  · rw [okb_no hp] at h; cases h
theorem okb_false {P : Prop} (h : okb P = false) : ¬ P := fun hp => by rw [okb_yes hp] at h; cases h
end Go.Proofs.Ytloffnamjgnkhaa
