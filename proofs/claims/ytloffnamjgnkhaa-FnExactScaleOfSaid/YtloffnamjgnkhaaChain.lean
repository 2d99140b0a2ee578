/-
  Two chains of 'build a slice, append it, store the result' in one region: what holds by how far each has come. Conditions: those that each theorem names.
-/
import Derived.Test.YtloffnamjgnkhaaFx
import Derived.Test.YtloffnamjgnkhaaApp
import Derived.Test.YtloffnamjgnkhaaInvT
namespace Go.Proofs.Ytloffnamjgnkhaa
open Go.RowKit Mem

/-- One chain: b the built slice is there, a it is appended. -/
structure Ch (H Bd : Nat) (A : Option Addr) (n c : Nat) (xs : List Int) (x : Int) (b a : Bool) (fb fa : Value) (w : World) : Prop where
  own : Own Bd w (if a then fa else .slice A n c) (if a then xs ++ [x] else xs)
  new : a = true → ∃ g cap, fa = .slice (some ⟨g, 0, none⟩) (n + 1) cap ∧ (A.map (·.block) = some g ∨ H ≤ g) ∧ g < w.heap.size
  bld : b = true → a = false → ∃ g, fb = .slice (some ⟨g, 0, none⟩) 1 1 ∧ w.cell? ⟨g, 0, none⟩ = some (.int .i64 x) ∧ H ≤ g ∧ g < w.heap.size

section
variable {H Bd : Nat} {A : Option Addr} {n c : Nat} {xs : List Int} {x : Int} {b a : Bool} {fb fa : Value} {w w' : World} {T : List Nat}
theorem blk0 (A : Option Addr) (n c : Nat) : (Value.slice A n c).ownBlock = A.map (·.block) := by cases A <;> rfl
theorem Ch.kp (h : Ch H Bd A n c xs x b a fb fa w) (hk : Kp T w w') (hT : ∀ t ∈ T, t < H ∧ A.map (·.block) ≠ some t) : Ch H Bd A n c xs x b a fb fa w' := by
  refine ⟨?_, fun ha => ?_, fun hb ha => ?_⟩
  · refine h.own.kp hk fun k hk' hkT => ?_
    obtain ⟨h1, h2⟩ := hT k hkT
    cases a
    · exact h2 (by rw [← blk0 A n c]; exact hk')
    · obtain ⟨g, cap, rfl, hg, _⟩ := h.new rfl
      injection hk' with hk'
      subst hk'
      rcases hg with hg | hg
      · exact h2 hg
      · exact absurd h1 (by simp only; omega)
  · obtain ⟨g, cap, e, hg, hl⟩ := h.new ha
    exact ⟨g, cap, e, hg, Nat.lt_of_lt_of_le hl hk.size⟩
  · obtain ⟨g, e, hc, h1, h2⟩ := h.bld hb ha
    exact ⟨g, e, (hk.cell (p := ⟨g, 0, none⟩) h2 (fun hh => by have := (hT _ hh).1; simp only at this; omega)).trans hc, h1, Nat.lt_of_lt_of_le h2 hk.size⟩
theorem Ch.build (h : Ch H Bd A n c xs x b false fb fa w) (hs : H ≤ w.heap.size) (t : TypeId) : Ch H Bd A n c xs x true false (.slice (some ⟨w.heap.size, 0, none⟩) 1 1) fa (w.alloc (.cells #[.int .i64 x] t)) := by
  refine ⟨h.own.kp0 ((Kp.refl _).alloc _), fun ha => (by cases ha), fun _ _ => ⟨w.heap.size, rfl, ?_, hs, by simp⟩⟩
  simp [go_sem]
end

theorem run_app1 {H Bd : Nat} {A : Option Addr} {n c : Nat} {xs : List Int} {x : Int} {fb fa : Value} {w : World} (h : Ch H Bd A n c xs x true false fb fa w) (hB : Bd ≤ w.heap.size) (hn : n ≤ 1048576) :
    ∃ g cap w', (Builtin.append_ #[22, 22] 22 #[.slice A n c, fb]).run Try.prog w = .ok (.slice (some ⟨g, 0, none⟩) (n + 1) cap) w' ∧ Kp (A.map (·.block)).toList w w' ∧ (A.map (·.block) = some g ∨ g = w.heap.size) ∧ g < w'.heap.size ∧
      Own Bd w' (.slice (some ⟨g, 0, none⟩) (n + 1) cap) (xs ++ [x]) := by
  obtain ⟨i0, hi0, hz0, hz1, hz2⟩ := info_parts (show (Try.prog.info? 2).map (fun i => (i.zero, i.size, i.bytes)) = some (some (.int .i64 0), 1, 8) by kernel_rfl)
  obtain ⟨gb, rfl, hc, h1, h2⟩ := h.bld rfl rfl
  have hl : xs.length = n := h.own.len
  have ho : w.ownsRow Bd 2 1 (.slice A n c) n (valsI xs) := by have := h.own; unfold Own at this; simp only [Bool.false_eq_true, if_false] at this; rwa [hl] at this
  obtain ⟨g, cap, w', hr, o1, hg, hat, hlt, _⟩ := run_app (P := Try.prog) (w := w) 22 22 Bd 2 i0 (.int .i64 0) 1 8 Try.underlying22 hi0 hz0 hz1 hz2 rfl (by omega) (.slice A n c) n (valsI xs) ho
    ⟨gb, 0, none⟩ 1 1 [.int .i64 x] rfl (by
      intro j u hj
      cases j with
      | zero => simp at hj; subst hj; simpa [Addr.add] using hc
      | succ j => simp at hj) (by intro u hu; simp at hu; subst hu; rfl) (by omega) (by simp only [maxLen]; omega) (by omega) hB
  refine ⟨g, cap, w', hr, ?_, by rw [← blk0 A n c]; exact hat, hlt, ?_⟩
  · exact ⟨hg.os, hg.tape, hg.output, hg.size, fun k hk hn => hg.block k hk (fun e => hn (by rw [← blk0 A n c, ← e]; simp))⟩
  · unfold Own
    simp only [List.length_append, List.length_singleton, hl]
    simpa [valsI] using o1

/-- What stands still all along. -/
structure ChB (H p : Nat) (A B : Option Addr) : Prop where
  lp : p < H
  b : ∀ k ∈ bl A B, k < H ∧ k ≠ p
  ne : ∀ a b, A = some a → B = some b → a.block ≠ b.block

/-- Both chains, and the block that the results go to. -/
structure Ch2 (W1 : World) (p Bd : Nat) (A : Option Addr) (n c : Nat) (B : Option Addr) (m d : Nat) (xs ys : List Int) (x y : Int) (t : TypeId) (b1 a1 s1 b2 a2 s2 : Bool) (fb1 fa1 fb2 fa2 : Value) (w : World) : Prop where
  k : Kp (p :: bl A B) W1 w
  acc : Fx w p t (if s1 then fa1 else .slice A n c) (if s2 then fa2 else .slice B m d)
  l : Ch W1.heap.size Bd A n c xs x b1 a1 fb1 fa1 w
  r : Ch W1.heap.size Bd B m d ys y b2 a2 fb2 fa2 w
  apart : a1 = true → a2 = true → fa1.ownBlock ≠ fa2.ownBlock

section
variable {W1 : World} {p Bd : Nat} {A : Option Addr} {n c : Nat} {B : Option Addr} {m d : Nat} {xs ys : List Int} {x y : Int} {t : TypeId} {b1 a1 s1 b2 a2 s2 : Bool} {fb1 fa1 fb2 fa2 : Value} {w w' : World}
theorem memL {a : Nat} (h : A.map (·.block) = some a) : a ∈ bl A B := by simp [bl, h]
theorem memR {a : Nat} (h : B.map (·.block) = some a) : a ∈ bl A B := by simp [bl, h]
theorem ChB.ne' (s : ChB W1.heap.size p A B) {a : Nat} (h1 : A.map (·.block) = some a) (h2 : B.map (·.block) = some a) : False := by
  cases A with
  | none => cases h1
  | some u => cases B with
    | none => cases h2
    | some v => exact s.ne u v rfl rfl (by simp at h1 h2; omega)
theorem Ch2.start (s : ChB W1.heap.size p A B) (hp : Fx W1 p t (.slice A n c) (.slice B m d)) (ho : Own2 Bd W1 A n c B m d xs ys) :
    Ch2 W1 p Bd A n c B m d xs ys x y t false false false false false false fb1 fa1 fb2 fa2 W1.drew :=
  ⟨((Kp.refl W1).drew).mono (by simp), hp.kp ((Kp.refl W1).drew),
    ⟨ho.o1.kp0 ((Kp.refl W1).drew), fun h => (by cases h), fun h => (by cases h)⟩, ⟨ho.o2.kp0 ((Kp.refl W1).drew), fun h => (by cases h), fun h => (by cases h)⟩, fun h => (by cases h)⟩
theorem Ch2.build1 (h : Ch2 W1 p Bd A n c B m d xs ys x y t b1 false s1 b2 a2 s2 fb1 fa1 fb2 fa2 w) (u : TypeId) :
    Ch2 W1 p Bd A n c B m d xs ys x y t true false s1 b2 a2 s2 (.slice (some ⟨w.heap.size, 0, none⟩) 1 1) fa1 fb2 fa2 (w.alloc (.cells #[.int .i64 x] u)) :=
  ⟨h.k.alloc _, h.acc.kp ((Kp.refl _).alloc _), h.l.build h.k.size u, h.r.kp ((Kp.refl _).alloc _) (by simp), fun h => (by cases h)⟩
theorem Ch2.build2 (h : Ch2 W1 p Bd A n c B m d xs ys x y t b1 a1 s1 b2 false s2 fb1 fa1 fb2 fa2 w) (u : TypeId) :
    Ch2 W1 p Bd A n c B m d xs ys x y t b1 a1 s1 true false s2 fb1 fa1 (.slice (some ⟨w.heap.size, 0, none⟩) 1 1) fa2 (w.alloc (.cells #[.int .i64 y] u)) :=
  ⟨h.k.alloc _, h.acc.kp ((Kp.refl _).alloc _), h.l.kp ((Kp.refl _).alloc _) (by simp), h.r.build h.k.size u, fun _ h => (by cases h)⟩
theorem Ch2.app1 (s : ChB W1.heap.size p A B) (h : Ch2 W1 p Bd A n c B m d xs ys x y t true false false b2 a2 s2 fb1 fa1 fb2 fa2 w) (hB : Bd ≤ W1.heap.size) (hn : n ≤ 1048576) :
    ∃ g cap w', (Builtin.append_ #[22, 22] 22 #[.slice A n c, fb1]).run Try.prog w = .ok (.slice (some ⟨g, 0, none⟩) (n + 1) cap) w' ∧
      Ch2 W1 p Bd A n c B m d xs ys x y t true true false b2 a2 s2 fb1 (.slice (some ⟨g, 0, none⟩) (n + 1) cap) fb2 fa2 w' := by
  obtain ⟨g, cap, w', hr, hk, hat, hlt, ho⟩ := run_app1 h.l (Nat.le_trans hB h.k.size) hn
  refine ⟨g, cap, w', hr, (h.k.trans hk).mono ?_, ?_, ⟨ho, fun _ => ⟨g, cap, rfl, ?_, hlt⟩, fun _ h => (by cases h)⟩, ?_, fun _ ha => ?_⟩
  · intro k hk' _
    rcases List.mem_append.1 hk' with hh | hh
    · exact hh
    · exact List.mem_cons_of_mem _ (memL (by simpa using hh))
  · exact h.acc.keep hk (fun hh => (s.b _ (memL (B := B) (by simpa using hh))).2 rfl)
  · rcases hat with hat | hat
    · exact .inl hat
    · exact .inr (by have := h.k.size; omega)
  · refine h.r.kp hk fun k hk' => ?_
    have hk2 : A.map (·.block) = some k := by simpa using hk'
    exact ⟨(s.b _ (memL hk2)).1, fun e => s.ne' hk2 e⟩
  · obtain ⟨g2, cap2, rfl, h1, h2⟩ := h.r.new ha
    intro e
    injection e with e
    simp only at e
    subst e
    rcases hat with hat | hat
    · rcases h1 with h1 | h1
      · exact s.ne' hat h1
      · have := (s.b _ (memL (B := B) hat)).1; omega
    · omega
theorem Ch2.app2 (s : ChB W1.heap.size p A B) (h : Ch2 W1 p Bd A n c B m d xs ys x y t b1 a1 s1 true false false fb1 fa1 fb2 fa2 w) (hB : Bd ≤ W1.heap.size) (hn : m ≤ 1048576) :
    ∃ g cap w', (Builtin.append_ #[22, 22] 22 #[.slice B m d, fb2]).run Try.prog w = .ok (.slice (some ⟨g, 0, none⟩) (m + 1) cap) w' ∧
      Ch2 W1 p Bd A n c B m d xs ys x y t b1 a1 s1 true true false fb1 fa1 fb2 (.slice (some ⟨g, 0, none⟩) (m + 1) cap) w' := by
  obtain ⟨g, cap, w', hr, hk, hat, hlt, ho⟩ := run_app1 h.r (Nat.le_trans hB h.k.size) hn
  refine ⟨g, cap, w', hr, (h.k.trans hk).mono ?_, ?_, ?_, ⟨ho, fun _ => ⟨g, cap, rfl, ?_, hlt⟩, fun _ h => (by cases h)⟩, fun ha _ => ?_⟩
  · intro k hk' _
    rcases List.mem_append.1 hk' with hh | hh
    · exact hh
    · exact List.mem_cons_of_mem _ (memR (by simpa using hh))
  · exact h.acc.keep hk (fun hh => (s.b _ (memR (A := A) (by simpa using hh))).2 rfl)
  · refine h.l.kp hk fun k hk' => ?_
    have hk2 : B.map (·.block) = some k := by simpa using hk'
    exact ⟨(s.b _ (memR hk2)).1, fun e => s.ne' e hk2⟩
  · rcases hat with hat | hat
    · exact .inl hat
    · exact .inr (by have := h.k.size; omega)
  · obtain ⟨g2, cap2, rfl, h1, h2⟩ := h.l.new ha
    intro e
    injection e with e
    simp only at e
    subst e
    rcases hat with hat | hat
    · rcases h1 with h1 | h1
      · exact s.ne' h1 hat
      · have := (s.b _ (memR (A := A) hat)).1; omega
    · omega
theorem Ch2.store1 (s : ChB W1.heap.size p A B) (h : Ch2 W1 p Bd A n c B m d xs ys x y t b1 true s1 b2 a2 s2 fb1 fa1 fb2 fa2 w) :
    Ch2 W1 p Bd A n c B m d xs ys x y t b1 true true b2 a2 s2 fb1 fa1 fb2 fa2 (w.setCell ⟨p, 0, none⟩ fa1) := by
  have hk := (Kp.refl w).set p 0 fa1
  refine ⟨(h.k.trans hk).mono (by intro k hk' _; rcases List.mem_append.1 hk' with hh | hh; exact hh; simp at hh; subst hh; simp), ?_, h.l.kp hk ?_, h.r.kp hk ?_, h.apart⟩
  · have := h.acc.set0 fa1
    simpa using this
  · intro t ht
    simp at ht
    subst ht
    exact ⟨s.lp, fun e => (s.b _ (memL (B := B) e)).2 rfl⟩
  · intro t ht
    simp at ht
    subst ht
    exact ⟨s.lp, fun e => (s.b _ (memR (A := A) e)).2 rfl⟩
theorem Ch2.store2 (s : ChB W1.heap.size p A B) (h : Ch2 W1 p Bd A n c B m d xs ys x y t b1 a1 s1 b2 true s2 fb1 fa1 fb2 fa2 w) :
    Ch2 W1 p Bd A n c B m d xs ys x y t b1 a1 s1 b2 true true fb1 fa1 fb2 fa2 (w.setCell ⟨p, 1, none⟩ fa2) := by
  have hk := (Kp.refl w).set p 1 fa2
  refine ⟨(h.k.trans hk).mono (by intro k hk' _; rcases List.mem_append.1 hk' with hh | hh; exact hh; simp at hh; subst hh; simp), ?_, h.l.kp hk ?_, h.r.kp hk ?_, h.apart⟩
  · have := h.acc.set1 fa2
    simpa using this
  · intro t ht
    simp at ht
    subst ht
    exact ⟨s.lp, fun e => (s.b _ (memL (B := B) e)).2 rfl⟩
  · intro t ht
    simp at ht
    subst ht
    exact ⟨s.lp, fun e => (s.b _ (memR (A := A) e)).2 rfl⟩
end
end Go.Proofs.Ytloffnamjgnkhaa
