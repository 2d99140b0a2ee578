/-
  The reference's own copy of a scale. Conditions: the slices read as lists that are not empty and not too long.
-/
import Derived.Test.YtloffnamjgnkhaaChain
import Derived.Test.YtloffnamjgnkhaaTrimR
namespace Go.Proofs.Ytloffnamjgnkhaa
open Go.RowKit Mem Flo
open Go.Proofs.Ytloffnamjgnkhaa.Inv
set_option linter.unusedSimpArgs false

/-- One copy: b the empty slice is there, a the list is appended to it. -/
structure Cp (H : Nat) (zs : List Int) (b a : Bool) (fb fa : Value) (w : World) : Prop where
  own : b = true → Own H w (if a then fa else fb) (if a then zs else [])
  form : b = true → ∃ g n c, (if a then fa else fb) = .slice (some ⟨g, 0, none⟩) n c

section
variable {H : Nat} {zs : List Int} {b a : Bool} {fb fa : Value} {w w' : World} {T : List Nat}
theorem Cp.kp (h : Cp H zs b a fb fa w) (hk : Kp T w w') (hT : ∀ t ∈ T, b = true → (if a then fa else fb).ownBlock ≠ some t) : Cp H zs b a fb fa w' :=
  ⟨fun hb => (h.own hb).kp hk (fun k hk hkT => hT k hkT hb hk), h.form⟩
end

theorem own_empty {H : Nat} (w : World) (hs : H ≤ w.heap.size) : Own H (w.alloc (.cells #[] 2)) (.slice (some ⟨w.heap.size, 0, none⟩) 0 0) [] :=
  World.ownsRow_made w #[] 0 hs (Nat.zero_le _) (by simp)

theorem run_cp {H : Nat} {zs : List Int} {fb : Value} {w : World} {A : Option Addr} {n c : Nat} (h : Own H w fb []) (hH : H ≤ w.heap.size) (hs : Sl w A n (valsI zs)) (h0 : 0 < n) (hn : n ≤ 1048576) :
    ∃ g cap w', (Builtin.append_ #[22, 22] 22 #[fb, .slice A n c]).run Try.prog w = .ok (.slice (some ⟨g, 0, none⟩) n cap) w' ∧ Kp fb.ownBlock.toList w w' ∧ (fb.ownBlock = some g ∨ g = w.heap.size) ∧
      Own H w' (.slice (some ⟨g, 0, none⟩) n cap) zs := by
  obtain ⟨i0, hi0, hz0, hz1, hz2⟩ := info_parts (show (Try.prog.info? 2).map (fun i => (i.zero, i.size, i.bytes)) = some (some (.int .i64 0), 1, 8) by kernel_rfl)
  have hl : zs.length = n := by rw [← valsI_len, hs.len]
  obtain ⟨bk, off, rfl, hb, hc⟩ := hs.2 h0
  have ho : w.ownsRow H 2 1 fb 0 [] := h
  obtain ⟨g, cap, w', hr, o1, hg, hat, hlt, _⟩ := run_app (P := Try.prog) (w := w) 22 22 H 2 i0 (.int .i64 0) 1 8 Try.underlying22 hi0 hz0 hz1 hz2 rfl (by omega) fb 0 [] ho
    ⟨bk, off, none⟩ n c (valsI zs) (by rw [valsI_len, hl]; omega) (by
      intro j u hj
      have hadd : (⟨bk, off, none⟩ : Addr).add j = ⟨bk, off + j, none⟩ := by unfold Addr.add; split <;> simp_all
      rw [hadd]
      exact hc j u hj) (by intro u hu; unfold valsI at hu; rw [List.mem_map] at hu; obtain ⟨z, _, rfl⟩ := hu; rfl) (by omega) (by simp only [maxLen]; omega) (by omega) hH
  rw [Nat.zero_add] at hr o1
  refine ⟨g, cap, w', hr, ?_, hat, ?_⟩
  · exact ⟨hg.os, hg.tape, hg.output, hg.size, fun k hk hn => hg.block k hk (fun e => hn (by rw [← e]; simp))⟩
  · unfold Own
    rw [hl]
    simpa using o1

theorem off_of {w W : World} {A : Option Addr} {n : Nat} {xs : List Value} (_ : w.heap.size < W.heap.size) (_ : Kp [] w W) (h : Sl w A n xs) : Off A [w.heap.size] ∨ n = 0 := by
  by_cases hn : 0 < n
  · obtain ⟨b, off, e, hb, _⟩ := h.2 hn
    left
    intro a ha
    rw [e] at ha
    injection ha with ha
    subst ha
    simp
    omega
  · right; omega

/-- Both copies, and the block that they go to. -/
structure Cp2 (W1 : World) (p : Nat) (t : TypeId) (xs ys : List Int) (b1 a1 b2 a2 s : Bool) (fb1 fa1 fb2 fa2 : Value) (w : World) : Prop where
  k : Kp [p] W1 w
  l : Cp W1.heap.size xs b1 a1 fb1 fa1 w
  r : Cp W1.heap.size ys b2 a2 fb2 fa2 w
  apart : b1 = true → b2 = true → (if a1 then fa1 else fb1).ownBlock ≠ (if a2 then fa2 else fb2).ownBlock
  res : Fx w p t (if s then fa1 else .slice none 0 0) (if s then fa2 else .slice none 0 0)

section
variable {W1 : World} {p : Nat} {t : TypeId} {xs ys : List Int} {b1 a1 b2 a2 s : Bool} {fb1 fa1 fb2 fa2 : Value} {w w' : World} {A B : Option Addr} {n c m d : Nat}
theorem Cp2.start (h : Fx W1 p t (.slice none 0 0) (.slice none 0 0)) : Cp2 W1 p t xs ys false false false false false fb1 fa1 fb2 fa2 W1.drew :=
  ⟨((Kp.refl W1).drew).mono (by simp), ⟨fun h => (by cases h), fun h => (by cases h)⟩, ⟨fun h => (by cases h), fun h => (by cases h)⟩, fun h => (by cases h), h.kp ((Kp.refl W1).drew)⟩
theorem Cp2.build1 (h : Cp2 W1 p t xs ys b1 false b2 a2 false fb1 fa1 fb2 fa2 w) :
    Cp2 W1 p t xs ys true false b2 a2 false (.slice (some ⟨w.heap.size, 0, none⟩) 0 0) fa1 fb2 fa2 (w.alloc (.cells #[] 2)) := by
  refine ⟨h.k.alloc _, ⟨fun _ => own_empty w h.k.size, fun _ => ⟨_, _, _, rfl⟩⟩, h.r.kp ((Kp.refl _).alloc _) (by simp), fun _ hb => ?_, h.res.kp ((Kp.refl _).alloc _)⟩
  intro e
  have := ((h.r.own hb).lt _ e.symm).2
  simp only at this
  omega
theorem Cp2.build2 (h : Cp2 W1 p t xs ys b1 a1 b2 false false fb1 fa1 fb2 fa2 w) :
    Cp2 W1 p t xs ys b1 a1 true false false fb1 fa1 (.slice (some ⟨w.heap.size, 0, none⟩) 0 0) fa2 (w.alloc (.cells #[] 2)) := by
  refine ⟨h.k.alloc _, h.l.kp ((Kp.refl _).alloc _) (by simp), ⟨fun _ => own_empty w h.k.size, fun _ => ⟨_, _, _, rfl⟩⟩, fun hb _ => ?_, h.res.kp ((Kp.refl _).alloc _)⟩
  intro e
  have := ((h.l.own hb).lt _ e).2
  simp only at this
  omega
theorem Cp2.app1 (h : Cp2 W1 p t xs ys true false b2 a2 false fb1 fa1 fb2 fa2 w) (hp : p < W1.heap.size) (hs : Sl w A n (valsI xs)) (h0 : 0 < n) (hn : n ≤ 1048576) :
    ∃ g cap w', (Builtin.append_ #[22, 22] 22 #[fb1, .slice A n c]).run Try.prog w = .ok (.slice (some ⟨g, 0, none⟩) n cap) w' ∧
      Cp2 W1 p t xs ys true true b2 a2 false fb1 (.slice (some ⟨g, 0, none⟩) n cap) fb2 fa2 w' := by
  have ho := h.l.own rfl
  obtain ⟨g, cap, w', hr, hk, hat, o1⟩ := run_cp (c := c) ho h.k.size hs h0 hn
  have hf : ∀ t ∈ fb1.ownBlock.toList, W1.heap.size ≤ t := fun t ht => (ho.lt t (by simpa using ht)).1
  refine ⟨g, cap, w', hr, (h.k.trans hk).mono ?_, ⟨fun _ => o1, fun _ => ⟨_, _, _, rfl⟩⟩, h.r.kp hk ?_, fun _ hb => ?_, h.res.keep hk (fun hh => by have := hf _ hh; omega)⟩
  · intro t ht hlt
    rcases List.mem_append.1 ht with hh | hh
    · exact hh
    · have := hf _ hh; omega
  · intro t ht hb e
    exact h.apart rfl hb (by rw [e]; simpa using ht)
  · intro e
    have e' : (if a2 = true then fa2 else fb2).ownBlock = some g := e.symm
    rcases hat with hat | hat
    · exact h.apart rfl hb (by rw [e']; exact hat)
    · have := ((h.r.own hb).lt _ e').2
      omega
theorem Cp2.app2 (h : Cp2 W1 p t xs ys b1 a1 true false false fb1 fa1 fb2 fa2 w) (hp : p < W1.heap.size) (hs : Sl w B m (valsI ys)) (h0 : 0 < m) (hn : m ≤ 1048576) :
    ∃ g cap w', (Builtin.append_ #[22, 22] 22 #[fb2, .slice B m d]).run Try.prog w = .ok (.slice (some ⟨g, 0, none⟩) m cap) w' ∧
      Cp2 W1 p t xs ys b1 a1 true true false fb1 fa1 fb2 (.slice (some ⟨g, 0, none⟩) m cap) w' := by
  have ho := h.r.own rfl
  obtain ⟨g, cap, w', hr, hk, hat, o1⟩ := run_cp (c := d) ho h.k.size hs h0 hn
  have hf : ∀ t ∈ fb2.ownBlock.toList, W1.heap.size ≤ t := fun t ht => (ho.lt t (by simpa using ht)).1
  refine ⟨g, cap, w', hr, (h.k.trans hk).mono ?_, h.l.kp hk ?_, ⟨fun _ => o1, fun _ => ⟨_, _, _, rfl⟩⟩, fun hb _ => ?_, h.res.keep hk (fun hh => by have := hf _ hh; omega)⟩
  · intro t ht hlt
    rcases List.mem_append.1 ht with hh | hh
    · exact hh
    · have := hf _ hh; omega
  · intro t ht hb e
    exact h.apart hb rfl (by rw [e]; simp at ht; exact ht.symm)
  · intro e
    have e' : (if a1 = true then fa1 else fb1).ownBlock = some g := e
    rcases hat with hat | hat
    · exact h.apart hb rfl (by rw [e']; exact hat.symm)
    · have := ((h.l.own hb).lt _ e').2
      omega
theorem Cp2.store (h : Cp2 W1 p t xs ys true true true true s fb1 fa1 fb2 fa2 w) (hp : p < W1.heap.size) :
    Cp2 W1 p t xs ys true true true true true fb1 fa1 fb2 fa2 ((w.setCell ⟨p, 0, none⟩ fa1).setCell ⟨p, 1, none⟩ fa2) := by
  have hk := ((Kp.refl w).set p 0 fa1).set p 1 fa2
  refine ⟨(h.k.trans hk).mono (by intro t ht _; simpa using ht), h.l.kp hk ?_, h.r.kp hk ?_, h.apart, (h.res.set0 fa1).set1 fa2⟩
  · intro t ht hb e
    have := ((h.l.own hb).lt _ e).1
    simp at ht
    omega
  · intro t ht hb e
    have := ((h.r.own hb).lt _ e).1
    simp at ht
    omega
end

set_option maxRecDepth 100000 in
set_option maxHeartbeats 2000000 in
theorem own_spec (A : Option Addr) (n c : Nat) (bs : List Int) (B : Option Addr) (m d : Nat) (rs : List Int) (q : Nat) (w : World) (hbx : Bx w q A n c B m d)
    (h : Sl w A n (valsI bs)) (h2 : Sl w B m (valsI rs)) (hn : n ≤ 1048576) (hm : m ≤ 1048576) (hn0 : 0 < n) (hm0 : 0 < m) :
    Calls Try.prog 77 #[.pointer (some ⟨q, 0, none⟩)] w fun e w' => ∃ A2 c2 B2 d2, e = .returned (.agg #[.slice A2 n c2, .slice B2 m d2]) ∧ Kp [] w w' ∧ Own2 w.heap.size w' A2 n c2 B2 m d2 bs rs := by
  have HA := Lib.hid h
  have HB := Lib.hid h2
  have HX := Lib.hid (hbx.kp ((Kp.refl w).alloc (.cells #[.slice none 0 0, .slice none 0 0] 27)))
  have HQ := Lib.hid hbx.lt
  clear h h2 hbx
  have HF := Lib.hid (Fx.new w 27 (.slice none 0 0) (.slice none 0 0))
  go_enter Try.func77, Try.ntmps77
  go_wp2_with fail
  have hk0 := Lib.hid ((Kp.refl w).alloc (.cells #[.slice none 0 0, .slice none 0 0] 27))
  generalize hW : w.alloc (.cells #[.slice none 0 0, .slice none 0 0] 27) = W at *
  clear hW
  refine wp_region_tab (n := 16) (by kernel_rfl) (by kernel_rfl) rfl
    [(0, .pointer (some ⟨q, 0, none⟩)), (2, .pointer (some ⟨w.heap.size, 0, none⟩)), (4, .pointer (some ⟨q, 0, none⟩)), (5, .pointer (some ⟨q, 0, none⟩)), (6, .pointer (some ⟨q, 0, none⟩)), (7, .slice A n c), (10, .pointer (some ⟨q, 0, none⟩)), (11, .pointer (some ⟨q, 0, none⟩)), (12, .pointer (some ⟨q, 1, none⟩)), (13, .slice B m d)]
    (fun done f w' => Cp2 W w.heap.size 27 bs rs (done 0) (done 5) (done 6) (done 11) (done 13) (f 3) (f 8) (f 9) (f 14) w' ∧ (done 12 = true → f 15 = .agg #[f 8, f 14])) ?_ ⟨Cp2.start HF.out, fun hh => (by cases hh)⟩ ⟨?_, ?_, ?_, ?_, ?_, ?_, ?_, ?_, ?_, ?_, ?_, ?_, ?_, ?_, trivial⟩ ?_
  · exact ⟨.inr rfl, .inr rfl, .inl rfl, .inl rfl, .inl rfl, .inl rfl, .inl rfl, .inl rfl, .inl rfl, .inl rfl, trivial⟩
  · intro a w' done hc h0 hd hl hM
    have na : done 5 = false := hc.not (j := 5) rfl h0 ⟨⟨0, .data⟩, by simp, rfl, rfl⟩
    have nb : done 12 = false := hc.not (j := 12) rfl na ⟨⟨5, .data⟩, by simp, rfl, rfl⟩
    have ns : done 13 = false := hc.not (j := 13) rfl nb ⟨⟨12, .data⟩, by simp, rfl, rfl⟩
    refine pureT (v := .slice (some ⟨w'.heap.size, 0, none⟩) 0 0) (w := w'.alloc (.cells #[] 2)) ?_ ⟨?_, ?_, ?_⟩
    · clear hl hM hd hc h0
      simp only [execOp]
      go_simp
    · exact val1 fun u hu => (by have hn : none = some u := hu; cases hn)
    · have h1 := hM.1
      simp only [na, ns] at h1
      have := h1.build1
      simpa [upd, updF, na, ns] using this
    · intro hh
      have hh' : done 12 = true := hh
      rw [nb] at hh'
      cases hh'
  · intro a w' done hc h0 hd hl hM
    have e1 : a.eval (.tmp 0) = _ := hl.1 _ rfl
    refine pureT (v := .pointer (some ⟨q, 0, none⟩)) (w := w') ?_ ⟨?_, ?_⟩
    · clear hl hM hd hc h0
      simp only [execOp, e1]
      go_simp
    · exact val1 fun u hu => Option.some.inj hu
    · exact hM
  · intro a w' done hc h0 hd hl hM
    have e1 : a.eval (.tmp 4) = _ := hl.1 _ rfl
    refine pureT (v := .pointer (some ⟨q, 0, none⟩)) (w := w') ?_ ⟨?_, ?_⟩
    · clear hl hM hd hc h0
      simp only [execOp, e1]
      go_simp
    · exact val1 fun u hu => Option.some.inj hu
    · exact hM
  · intro a w' done hc h0 hd hl hM
    have e1 : a.eval (.tmp 5) = _ := hl.1 _ rfl
    refine pureT (v := .pointer (some ⟨q, 0, none⟩)) (w := w') ?_ ⟨?_, ?_⟩
    · clear hl hM hd hc h0
      simp only [execOp, e1]
      go_simp
    · exact val1 fun u hu => Option.some.inj hu
    · exact hM
  · intro a w' done hc h0 hd hl hM
    have e1 : a.eval (.tmp 6) = _ := hl.1 _ rfl
    have hc1 : w'.cell? ⟨q, 0, none⟩ = some (.slice A n c) := (hM.1.k.cell (p := ⟨q, 0, none⟩) HX.out.lt (by have := HQ.out; simp; omega)).trans HX.out.c0
    refine pureT (v := (.slice A n c)) (w := w') ?_ ⟨?_, ?_⟩
    · clear hl hM hd hc h0
      simp only [execOp, e1]
      go_simp
    · exact val1 fun u hu => Option.some.inj hu
    · exact hM
  · intro a w' done hc h0 hd hl hM
    have e1 : a.eval (.tmp 7) = _ := hl.2.1 _ rfl
    have nb : done 0 = true := hd ⟨0, .data⟩ (by simp) rfl
    have n12 : done 12 = false := hc.not (j := 12) rfl h0 ⟨⟨5, .data⟩, by simp, rfl, rfl⟩
    have ns : done 13 = false := hc.not (j := 13) rfl n12 ⟨⟨12, .data⟩, by simp, rfl, rfl⟩
    have h1 := hM.1
    simp only [nb, h0, ns] at h1
    obtain ⟨g, cap, w2, hr, h2⟩ := Cp2.app1 (c := c) h1 HF.out.lt ((HA.out.kp hk0.out).keep h1.k ((off_of HF.out.lt hk0.out HA.out).resolve_right (by omega))) hn0 hn
    refine pureT (v := .slice (some ⟨g, 0, none⟩) n cap) (w := w2) ?_ ⟨?_, ?_, ?_⟩
    · have e2 : a.eval (.tmp 3) = a.tmps.getD 3 undef := rfl

      unfold execOp
      simp only [resolve, invoke, builtin, Sem.run_bind, Sem.run_pure, Result.andThen_ok, List.map_toArray, List.map_cons, List.map_nil, e1, e2, hr]
    · exact val1 fun u hu => (by have hn : none = some u := hu; cases hn)
    · simpa [upd, updF, nb, ns] using h2
    · intro hh
      have hh' : done 12 = true := hh
      rw [n12] at hh'
      cases hh'
  · intro a w' done hc h0 hd hl hM
    have na : done 11 = false := hc.not (j := 11) rfl h0 ⟨⟨6, .data⟩, by simp, rfl, rfl⟩
    have nb : done 12 = false := hc.not (j := 12) rfl na ⟨⟨11, .data⟩, by simp, rfl, rfl⟩
    have ns : done 13 = false := hc.not (j := 13) rfl nb ⟨⟨12, .data⟩, by simp, rfl, rfl⟩
    refine pureT (v := .slice (some ⟨w'.heap.size, 0, none⟩) 0 0) (w := w'.alloc (.cells #[] 2)) ?_ ⟨?_, ?_, ?_⟩
    · clear hl hM hd hc h0
      simp only [execOp]
      go_simp
    · exact val1 fun u hu => (by have hn : none = some u := hu; cases hn)
    · have h1 := hM.1
      simp only [na, ns] at h1
      have := h1.build2
      simpa [upd, updF, na, ns] using this
    · intro hh
      have hh' : done 12 = true := hh
      rw [nb] at hh'
      cases hh'
  · intro a w' done hc h0 hd hl hM
    have e1 : a.eval (.tmp 0) = _ := hl.1 _ rfl
    refine pureT (v := .pointer (some ⟨q, 0, none⟩)) (w := w') ?_ ⟨?_, ?_⟩
    · clear hl hM hd hc h0
      simp only [execOp, e1]
      go_simp
    · exact val1 fun u hu => Option.some.inj hu
    · exact hM
  · intro a w' done hc h0 hd hl hM
    have e1 : a.eval (.tmp 10) = _ := hl.1 _ rfl
    refine pureT (v := .pointer (some ⟨q, 0, none⟩)) (w := w') ?_ ⟨?_, ?_⟩
    · clear hl hM hd hc h0
      simp only [execOp, e1]
      go_simp
    · exact val1 fun u hu => Option.some.inj hu
    · exact hM
  · intro a w' done hc h0 hd hl hM
    have e1 : a.eval (.tmp 11) = _ := hl.1 _ rfl
    refine pureT (v := .pointer (some ⟨q, 1, none⟩)) (w := w') ?_ ⟨?_, ?_⟩
    · clear hl hM hd hc h0
      simp only [execOp, e1]
      go_simp
    · exact val1 fun u hu => Option.some.inj hu
    · exact hM
  · intro a w' done hc h0 hd hl hM
    have e1 : a.eval (.tmp 12) = _ := hl.1 _ rfl
    have hc1 : w'.cell? ⟨q, 1, none⟩ = some (.slice B m d) := (hM.1.k.cell (p := ⟨q, 1, none⟩) HX.out.lt (by have := HQ.out; simp; omega)).trans HX.out.c1
    refine pureT (v := (.slice B m d)) (w := w') ?_ ⟨?_, ?_⟩
    · clear hl hM hd hc h0
      simp only [execOp, e1]
      go_simp
    · exact val1 fun u hu => Option.some.inj hu
    · exact hM
  · intro a w' done hc h0 hd hl hM
    have e1 : a.eval (.tmp 13) = _ := hl.2.1 _ rfl
    have nb : done 6 = true := hd ⟨6, .data⟩ (by simp) rfl
    have n12 : done 12 = false := hc.not (j := 12) rfl h0 ⟨⟨11, .data⟩, by simp, rfl, rfl⟩
    have ns : done 13 = false := hc.not (j := 13) rfl n12 ⟨⟨12, .data⟩, by simp, rfl, rfl⟩
    have h1 := hM.1
    simp only [nb, h0, ns] at h1
    obtain ⟨g, cap, w2, hr, h2⟩ := Cp2.app2 (d := d) h1 HF.out.lt ((HB.out.kp hk0.out).keep h1.k ((off_of HF.out.lt hk0.out HB.out).resolve_right (by omega))) hm0 hm
    refine pureT (v := .slice (some ⟨g, 0, none⟩) m cap) (w := w2) ?_ ⟨?_, ?_, ?_⟩
    · have e2 : a.eval (.tmp 9) = a.tmps.getD 9 undef := rfl

      unfold execOp
      simp only [resolve, invoke, builtin, Sem.run_bind, Sem.run_pure, Result.andThen_ok, List.map_toArray, List.map_cons, List.map_nil, e1, e2, hr]
    · exact val1 fun u hu => (by have hn : none = some u := hu; cases hn)
    · simpa [upd, updF, nb, ns] using h2
    · intro hh
      have hh' : done 12 = true := hh
      rw [n12] at hh'
      cases hh'
  · intro a w' done hc h0 hd hl hM
    have ns : done 13 = false := hc.not (j := 13) rfl h0 ⟨⟨12, .data⟩, by simp, rfl, rfl⟩
    have n5 : done 5 = true := hd ⟨5, .data⟩ (by simp) rfl
    have n11 : done 11 = true := hd ⟨11, .data⟩ (by simp) rfl
    have n0 : done 0 = true := hc 5 _ rfl n5 ⟨0, .data⟩ (by simp) rfl
    have n6 : done 6 = true := hc 11 _ rfl n11 ⟨6, .data⟩ (by simp) rfl
    have h1 := hM.1
    simp only [n0, n5, n6, n11, ns] at h1
    obtain ⟨g, k1, k2, ev⟩ := h1.l.form rfl
    obtain ⟨g2, k3, k4, ev2⟩ := h1.r.form rfl
    simp only [if_true] at ev ev2
    have e1 : a.tmps[8]?.getD undef = .slice (some ⟨g, 0, none⟩) k1 k2 := by simpa using ev
    have e2 : a.tmps[14]?.getD undef = .slice (some ⟨g2, 0, none⟩) k3 k4 := by simpa using ev2
    refine pureT (v := .agg #[a.tmps.getD 8 undef, a.tmps.getD 14 undef]) (w := w') ?_ ⟨?_, ?_, ?_⟩
    · rw [ev, ev2]
      clear hl hM hd hc h0 h1
      simp only [execOp]
      go_simp
    · exact val1 fun u hu => (by have hn : none = some u := hu; cases hn)
    · exact hM.1
    · intro _
      rfl
  · intro a w' done hc h0 hd hl hM
    have e1 : a.eval (.tmp 2) = _ := hl.1 _ rfl
    have n12 : done 12 = true := hd ⟨12, .data⟩ (by simp) rfl
    have n5 : done 5 = true := hc 12 _ rfl n12 ⟨5, .data⟩ (by simp) rfl
    have n11 : done 11 = true := hc 12 _ rfl n12 ⟨11, .data⟩ (by simp) rfl
    have n0 : done 0 = true := hc 5 _ rfl n5 ⟨0, .data⟩ (by simp) rfl
    have n6 : done 6 = true := hc 11 _ rfl n11 ⟨6, .data⟩ (by simp) rfl
    have h1 := hM.1
    simp only [n0, n5, n6, n11, h0] at h1
    have ev3 := hM.2 n12
    obtain ⟨g, k1, k2, ev⟩ := h1.l.form rfl
    obtain ⟨g2, k3, k4, ev2⟩ := h1.r.form rfl
    simp only [if_true] at ev ev2
    have e2 : a.eval (.tmp 15) = _ := ev3
    have hc1 := h1.res.c0
    have hc2 := h1.res.c1
    have hf1 := h1.res.f 0
    have hf2 := h1.res.f 1
    simp only [Bool.false_eq_true, if_false] at hc1 hc2
    refine skipT (w := (w'.setCell ⟨w.heap.size, 0, none⟩ (a.tmps.getD 8 undef)).setCell ⟨w.heap.size, 1, none⟩ (a.tmps.getD 14 undef)) ?_ ⟨val0, ?_, ?_⟩
    · dsimp only at e2 ev ev2
      rw [ev, ev2] at e2 ⊢
      clear hl hM hd hc h0 h1 ev3
      simp only [execOp, e1, e2]
      go_simp
    · have := h1.store HF.out.lt
      simpa [upd, updF, n0, n5, n6, n11] using this
    · exact hM.2
  · intro f w' done hd hM hv
    have h1 := hM.1
    simp only [hd 0 (by decide), hd 5 (by decide), hd 6 (by decide), hd 11 (by decide), hd 13 (by decide)] at h1
    obtain ⟨g, k1, k2, ev⟩ := h1.l.form rfl
    obtain ⟨g2, k3, k4, ev2⟩ := h1.r.form rfl
    have o1 := h1.l.own rfl
    have o2 := h1.r.own rfl
    have rs1 := h1.res
    have ap := h1.apart rfl rfl
    simp only [if_true] at ev ev2 o1 o2 rs1 ap
    rw [ev] at o1 rs1 ap
    rw [ev2] at o2 rs1 ap
    obtain rfl : n = k1 := by rw [← o1.len, ← valsI_len, HA.out.len]
    obtain rfl : m = k3 := by rw [← o2.len, ← valsI_len, HB.out.len]
    have hkk := Lib.hid (hk0.out.later h1.k (by simp))
    have OO := Lib.hid (show Own2 w.heap.size w' _ n k2 _ m k4 bs rs from ⟨o1.mono hk0.out.size, o2.mono hk0.out.size, by
      intro u v hu hv' e
      injection hu with hu
      injection hv' with hv'
      subst hu hv'
      simp only at e
      subst e
      exact ap rfl⟩)
    have c0 := rs1.c0
    have c1 := rs1.c1
    clear hM h1 hv hd rs1 ap o1 o2 ev ev2
    simp only [putAll, Act.put, List.setIfInBounds_toArray, List.set_cons_succ, List.set_cons_zero, Option.getD_some, Option.getD_none]
    go_wp2_with fail
    refine bodyPost_ret (v := .agg #[.slice (some ⟨g, 0, none⟩) n k2, .slice (some ⟨g2, 0, none⟩) m k4]) ?_ rfl ⟨_, _, _, _, rfl, hkk.out, OO.out⟩
    simp [results, Try.results77, go_sem, *]
end Go.Proofs.Ytloffnamjgnkhaa
