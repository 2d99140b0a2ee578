/-
  The two regions of the reference's TrimScale that append one number each. Conditions: those that each theorem names.
-/
import Derived.Test.YtloffnamjgnkhaaChain
namespace Go.Proofs.Ytloffnamjgnkhaa
open Go.RowKit Mem Flo
open Go.Proofs.Ytloffnamjgnkhaa.Inv
set_option linter.unusedSimpArgs false

theorem chb_of {w : World} {p : Nat} {A B : Option Addr} {n c m d : Nat} {xs ys : List Int} (h : Own2 (p + 1) w A n c B m d xs ys) (hp : p < w.heap.size) : ChB w.heap.size p A B :=
  ⟨hp, fun k hk => ⟨(h.lt k hk).2, by have := (h.lt k hk).1; omega⟩, h.ne⟩
theorem far_of {w : World} {p q : Nat} {A B : Option Addr} {n c m d : Nat} {xs ys : List Int} (h : Own2 (p + 1) w A n c B m d xs ys) (hq : q < p) : q ∉ p :: bl A B := by
  intro hh
  rcases List.mem_cons.1 hh with e | e
  · omega
  · have := (h.lt q e).1; omega

abbrev tr8Ops : List Oper :=
  [{ dst := some 33, op := Op.fieldAddr 27 (Operand.tmp 4) 0, type := 0, pos := "l02_scales.go:306", after := #[], guard := none },
   { dst := some 34, op := Op.load 22 (Operand.tmp 33), type := 22, pos := "l02_scales.go:306", after := #[{ on := 0, ground := Ground.data }], guard := none },
   { dst := some 35, op := Op.fieldAddr 27 (Operand.tmp 1) 0, type := 0, pos := "l02_scales.go:306", after := #[], guard := none },
   { dst := some 36, op := Op.load 22 (Operand.tmp 35), type := 22, pos := "l02_scales.go:306", after := #[{ on := 2, ground := Ground.data }], guard := none },
   { dst := some 37, op := Op.move (Operand.tmp 5), type := 3, pos := "l02_scales.go:306", after := #[], guard := none },
   { dst := some 38, op := Op.indexAddr 22 (Operand.tmp 36) (Operand.tmp 37), type := 0, pos := "l02_scales.go:306", after := #[{ on := 3, ground := Ground.data }, { on := 4, ground := Ground.data }], guard := none },
   { dst := some 39, op := Op.load 2 (Operand.tmp 38), type := 2, pos := "l02_scales.go:306", after := #[{ on := 5, ground := Ground.data }], guard := none },
   { dst := some 40, op := Op.buildSlice 22 1 #[(0, Operand.tmp 39)], type := 22, pos := "l02_scales.go:306", after := #[{ on := 6, ground := Ground.data }], guard := none },
   { dst := some 41, op := Op.call { callee := Callee.builtin Builtin.append, args := #[Operand.tmp 34, Operand.tmp 40], argTypes := #[22, 22] }, type := 22, pos := "l02_scales.go:306", after := #[{ on := 1, ground := Ground.data }, { on := 7, ground := Ground.data }], guard := none },
   { dst := some 42, op := Op.fieldAddr 27 (Operand.tmp 4) 0, type := 0, pos := "l02_scales.go:306", after := #[{ on := 0, ground := Ground.phase }, { on := 1, ground := Ground.phase }, { on := 2, ground := Ground.phase }, { on := 3, ground := Ground.phase }, { on := 4, ground := Ground.phase }, { on := 5, ground := Ground.phase }, { on := 6, ground := Ground.phase }, { on := 7, ground := Ground.phase }, { on := 8, ground := Ground.phase }], guard := none },
   { dst := none, op := Op.store 22 (Operand.tmp 42) (Operand.tmp 41), type := 0, pos := "l02_scales.go:306", after := #[{ on := 9, ground := Ground.data }, { on := 8, ground := Ground.data }, { on := 8, ground := Ground.chain }, { on := 0, ground := Ground.phase }, { on := 1, ground := Ground.phase }, { on := 2, ground := Ground.phase }, { on := 3, ground := Ground.phase }, { on := 4, ground := Ground.phase }, { on := 5, ground := Ground.phase }, { on := 6, ground := Ground.phase }, { on := 7, ground := Ground.phase }, { on := 8, ground := Ground.phase }], guard := none }]

set_option maxRecDepth 100000 in
set_option maxHeartbeats 1000000 in
theorem tr8 {id : Nat} {a0 : Act} {w : World} {Q : Exit → Act → World → Prop} {p q b off k N C n c m d : Nat} {A B : Option Addr} {xs ys : List Int} {x : Int} {V : Value} (hn : a0.tmps.size = 54)
    (h4 : a0.tmps.getD 4 undef = .pointer (some ⟨p, 0, none⟩)) (h1 : a0.tmps.getD 1 undef = .pointer (some ⟨q, 0, none⟩)) (h5 : a0.tmps.getD 5 undef = .int .i64 (k : Int))
    (arg : Fx w q 27 (.slice (some ⟨b, off, none⟩) N C) V) (acc : Fx w p 27 (.slice A n c) (.slice B m d)) (own : Own2 (p + 1) w A n c B m d xs ys) (hx : w.cell? ⟨b, off + k, none⟩ = some (.int .i64 x)) (hk : k < N) (hN : N ≤ 1048576) (hq : q < p) (hb : b < p) (hl1 : n ≤ 1048576)
    (hQ : ∀ (f : Nat → Value) (g cap : Nat) (w' : World) (T : List Nat), Kp T w w' → (∀ t ∈ T, p ≤ t) → Fx w' p 27 (.slice (some ⟨g, 0, none⟩) (n + 1) cap) (.slice B m d) → Own2 (p + 1) w' (some ⟨g, 0, none⟩) (n + 1) cap B m d (xs ++ [x]) ys → Q .normal (putAll f tr8Ops a0) w') :
    (Code.region id tr8Ops.toArray true).wp Try.prog Q a0 w := by
  have hp := acc.lt
  have s := chb_of own hp
  have fq := far_of own hq
  have fb := far_of own hb
  have hk0 : (0 : Int) ≤ (k : Int) := by omega
  have hk1 : (k : Int) < (N : Int) := by omega
  refine wp_region_tab (n := 54) (by kernel_rfl) (by kernel_rfl) hn
    [(1, .pointer (some ⟨q, 0, none⟩)), (4, .pointer (some ⟨p, 0, none⟩)), (5, .int .i64 (k : Int)), (33, .pointer (some ⟨p, 0, none⟩)), (34, (.slice A n c)), (35, .pointer (some ⟨q, 0, none⟩)), (36, (.slice (some ⟨b, off, none⟩) N C)), (37, .int .i64 (k : Int)), (38, .pointer (some ⟨b, off + k, none⟩)), (39, .int .i64 x), (42, .pointer (some ⟨p, 0, none⟩))]
    (fun done f w' => Ch2 w p (p + 1) A n c B m d xs ys x 0 27 (done 7) (done 8) (done 10) false false false (f 40) (f 41) undef undef w') ?_ (Ch2.start s acc own) ?_ ?_
  · exact ⟨.inr h1, .inr h4, .inr h5, .inl rfl, .inl rfl, .inl rfl, .inl rfl, .inl rfl, .inl rfl, .inl rfl, .inl rfl, trivial⟩
  · refine ⟨?_, ?_, ?_, ?_, ?_, ?_, ?_, ?_, ?_, ?_, ?_, trivial⟩
    · intro a w' done hc h0 hd hl hM
      have e1 : a.eval (.tmp 4) = _ := hl.1 _ rfl
      refine pureT (v := .pointer (some ⟨p, 0, none⟩)) (w := w') ?_ ⟨?_, ?_⟩
      · clear hl hM hd hc h0
        simp only [execOp, e1]
        go_simp
      · exact val1 fun u hu => Option.some.inj hu
      · exact hM
    · intro a w' done hc h0 hd hl hM
      have e1 : a.eval (.tmp 33) = _ := hl.1 _ rfl
      have n8 : done 8 = false := hc.not (j := 8) rfl h0 ⟨⟨1, .data⟩, by simp, rfl, rfl⟩
      have n10 : done 10 = false := hc.not (j := 10) rfl n8 ⟨⟨8, .data⟩, by simp, rfl, rfl⟩
      have hc1 : w'.cell? ⟨p, 0, none⟩ = some (.slice A n c) := by
        have := hM.acc.c0
        simpa [n10] using this
      refine pureT (v := (.slice A n c)) (w := w') ?_ ⟨?_, ?_⟩
      · clear hl hM hd hc h0
        simp only [execOp, e1]
        go_simp
      · exact val1 fun u hu => Option.some.inj hu
      · exact hM
    · intro a w' done hc h0 hd hl hM
      have e1 : a.eval (.tmp 1) = _ := hl.1 _ rfl
      refine pureT (v := .pointer (some ⟨q, 0, none⟩)) (w := w') ?_ ⟨?_, ?_⟩
      · clear hl hM hd hc h0
        simp only [execOp, e1]
        go_simp
      · exact val1 fun u hu => Option.some.inj hu
      · exact hM
    · intro a w' done hc h0 hd hl hM
      have e1 : a.eval (.tmp 35) = _ := hl.1 _ rfl
      have hc1 : w'.cell? ⟨q, 0, none⟩ = some (.slice (some ⟨b, off, none⟩) N C) := (hM.k.cell (p := ⟨q, 0, none⟩) arg.lt fq).trans arg.c0
      refine pureT (v := (.slice (some ⟨b, off, none⟩) N C)) (w := w') ?_ ⟨?_, ?_⟩
      · clear hl hM hd hc h0
        simp only [execOp, e1]
        go_simp
      · exact val1 fun u hu => Option.some.inj hu
      · exact hM
    · intro a w' done hc h0 hd hl hM
      have e1 : a.eval (.tmp 5) = _ := hl.1 _ rfl
      refine pureT (v := .int .i64 (k : Int)) (w := w') ?_ ⟨?_, ?_⟩
      · clear hl hM hd hc h0
        simp only [execOp, e1]
        go_simp
      · exact val1 fun u hu => Option.some.inj hu
      · exact hM
    · intro a w' done hc h0 hd hl hM
      have e1 : a.eval (.tmp 36) = _ := hl.1 _ rfl
      have e2 : a.eval (.tmp 37) = _ := hl.2.1 _ rfl
      refine pureT (v := .pointer (some ⟨b, off + k, none⟩)) (w := w') ?_ ⟨?_, ?_⟩
      · clear hl hM hd hc h0
        simp only [execOp, e1, e2]
        go_simp
      · exact val1 fun u hu => Option.some.inj hu
      · exact hM
    · intro a w' done hc h0 hd hl hM
      have e1 : a.eval (.tmp 38) = _ := hl.1 _ rfl
      have hc1 : w'.cell? ⟨b, off + k, none⟩ = some (.int .i64 x) := (hM.k.cell (p := ⟨b, off + k, none⟩) (by simp only; omega) fb).trans hx
      refine pureT (v := .int .i64 x) (w := w') ?_ ⟨?_, ?_⟩
      · clear hl hM hd hc h0
        simp only [execOp, e1]
        go_simp
      · exact val1 fun u hu => Option.some.inj hu
      · exact hM
    · intro a w' done hc h0 hd hl hM
      have e1 : a.eval (.tmp 39) = _ := hl.1 _ rfl
      have n8 : done 8 = false := hc.not (j := 8) rfl h0 ⟨⟨7, .data⟩, by simp, rfl, rfl⟩
      refine pureT (v := .slice (some ⟨w'.heap.size, 0, none⟩) 1 1) (w := w'.alloc (.cells #[.int .i64 x] 2)) ?_ ⟨?_, ?_⟩
      · have e2 : a.tmps[39]?.getD undef = .int .i64 x := by simpa [Act.eval] using e1
        clear hl hM hd hc h0 e1
        simp only [execOp]
        go_simp
      · exact val1 fun u hu => (by have hn : none = some u := hu; cases hn)
      · simp only [n8] at hM
        have := hM.build1 2
        simpa [upd, updF, n8] using this
    · intro a w' done hc h0 hd hl hM
      have e1 : a.eval (.tmp 34) = _ := hl.1 _ rfl
      have n7 : done 7 = true := hd ⟨7, .data⟩ (by simp) rfl
      have n10 : done 10 = false := hc.not (j := 10) rfl h0 ⟨⟨8, .data⟩, by simp, rfl, rfl⟩
      simp only [n7, h0, n10] at hM
      obtain ⟨g, cap, w2, hr, h2⟩ := Ch2.app1 s hM (by omega) hl1
      refine pureT (v := .slice (some ⟨g, 0, none⟩) (n + 1) cap) (w := w2) ?_ ⟨?_, ?_⟩
      · have e2 : a.eval (.tmp 40) = a.tmps.getD 40 undef := rfl
        unfold execOp
        simp only [resolve, invoke, builtin, Sem.run_bind, Sem.run_pure, Result.andThen_ok, List.map_toArray, List.map_cons, List.map_nil, e1, e2, hr]
      · exact val1 fun u hu => (by have hn : none = some u := hu; cases hn)
      · simpa [upd, updF, n7, n10] using h2
    · intro a w' done hc h0 hd hl hM
      have e1 : a.eval (.tmp 4) = _ := hl.1 _ rfl
      refine pureT (v := .pointer (some ⟨p, 0, none⟩)) (w := w') ?_ ⟨?_, ?_⟩
      · clear hl hM hd hc h0
        simp only [execOp, e1]
        go_simp
      · exact val1 fun u hu => Option.some.inj hu
      · exact hM
    · intro a w' done hc h0 hd hl hM
      have e1 : a.eval (.tmp 42) = _ := hl.1 _ rfl
      have n8 : done 8 = true := hd ⟨8, .data⟩ (by simp) rfl
      simp only [n8] at hM
      obtain ⟨g, cap, ev, _, _⟩ := hM.l.new rfl
      have e2 : a.eval (.tmp 41) = _ := ev
      have hc1 := hM.acc.c0
      have hf1 := hM.acc.f 0
      refine skipT (w := w'.setCell ⟨p, 0, none⟩ (a.tmps.getD 41 undef)) ?_ ⟨val0, ?_⟩
      · rw [ev]
        clear hl hM hd hc h0
        simp only [execOp, e1, e2]
        go_simp
      · have := Ch2.store1 s hM
        simpa [upd, updF, n8] using this
  · intro f w' done hd hM hv
    have n7 := hd 7 (by decide)
    have n8 := hd 8 (by decide)
    have n10 := hd 10 (by decide)
    simp only [n7, n8, n10] at hM
    obtain ⟨g, cap, ev, hg, _⟩ := hM.l.new rfl
    have o1 := hM.l.own
    have o2 := hM.r.own
    have ac := hM.acc
    simp only [ev, if_true, Bool.false_eq_true, if_false] at o1 o2 ac
    refine hQ f g cap w' (p :: bl A B) hM.k ?_ ac ⟨o1, o2, ?_⟩
    · intro t ht
      rcases List.mem_cons.1 ht with e | e
      · omega
      · have := (own.lt t e).1; omega
    · intro u v hu hv e
      injection hu with hu
      subst hu
      simp only at e
      have hv' : B.map (·.block) = some v.block := by rw [hv]; rfl
      rcases hg with hg | hg
      · rw [e] at hg
        exact s.ne' hg hv'
      · have := (s.b _ (memR (A := A) hv')).1
        omega

abbrev tr9Ops : List Oper :=
  [{ dst := some 43, op := Op.fieldAddr 27 (Operand.tmp 4) 1, type := 0, pos := "l02_scales.go:307", after := #[], guard := none },
   { dst := some 44, op := Op.load 22 (Operand.tmp 43), type := 22, pos := "l02_scales.go:307", after := #[{ on := 0, ground := Ground.data }], guard := none },
   { dst := some 45, op := Op.fieldAddr 27 (Operand.tmp 1) 1, type := 0, pos := "l02_scales.go:307", after := #[], guard := none },
   { dst := some 46, op := Op.load 22 (Operand.tmp 45), type := 22, pos := "l02_scales.go:307", after := #[{ on := 2, ground := Ground.data }], guard := none },
   { dst := some 47, op := Op.move (Operand.tmp 5), type := 3, pos := "l02_scales.go:307", after := #[], guard := none },
   { dst := some 48, op := Op.indexAddr 22 (Operand.tmp 46) (Operand.tmp 47), type := 0, pos := "l02_scales.go:307", after := #[{ on := 3, ground := Ground.data }, { on := 4, ground := Ground.data }], guard := none },
   { dst := some 49, op := Op.load 2 (Operand.tmp 48), type := 2, pos := "l02_scales.go:307", after := #[{ on := 5, ground := Ground.data }], guard := none },
   { dst := some 50, op := Op.buildSlice 22 1 #[(0, Operand.tmp 49)], type := 22, pos := "l02_scales.go:307", after := #[{ on := 6, ground := Ground.data }], guard := none },
   { dst := some 51, op := Op.call { callee := Callee.builtin Builtin.append, args := #[Operand.tmp 44, Operand.tmp 50], argTypes := #[22, 22] }, type := 22, pos := "l02_scales.go:307", after := #[{ on := 1, ground := Ground.data }, { on := 7, ground := Ground.data }], guard := none },
   { dst := some 52, op := Op.fieldAddr 27 (Operand.tmp 4) 1, type := 0, pos := "l02_scales.go:307", after := #[{ on := 0, ground := Ground.phase }, { on := 1, ground := Ground.phase }, { on := 2, ground := Ground.phase }, { on := 3, ground := Ground.phase }, { on := 4, ground := Ground.phase }, { on := 5, ground := Ground.phase }, { on := 6, ground := Ground.phase }, { on := 7, ground := Ground.phase }, { on := 8, ground := Ground.phase }], guard := none },
   { dst := none, op := Op.store 22 (Operand.tmp 52) (Operand.tmp 51), type := 0, pos := "l02_scales.go:307", after := #[{ on := 9, ground := Ground.data }, { on := 8, ground := Ground.data }, { on := 8, ground := Ground.chain }, { on := 0, ground := Ground.phase }, { on := 1, ground := Ground.phase }, { on := 2, ground := Ground.phase }, { on := 3, ground := Ground.phase }, { on := 4, ground := Ground.phase }, { on := 5, ground := Ground.phase }, { on := 6, ground := Ground.phase }, { on := 7, ground := Ground.phase }, { on := 8, ground := Ground.phase }], guard := none }]

set_option maxRecDepth 100000 in
set_option maxHeartbeats 1000000 in
theorem tr9 {id : Nat} {a0 : Act} {w : World} {Q : Exit → Act → World → Prop} {p q b off k N C n c m d : Nat} {A B : Option Addr} {xs ys : List Int} {x : Int} {V : Value} (hn : a0.tmps.size = 54)
    (h4 : a0.tmps.getD 4 undef = .pointer (some ⟨p, 0, none⟩)) (h1 : a0.tmps.getD 1 undef = .pointer (some ⟨q, 0, none⟩)) (h5 : a0.tmps.getD 5 undef = .int .i64 (k : Int))
    (arg : Fx w q 27 V (.slice (some ⟨b, off, none⟩) N C)) (acc : Fx w p 27 (.slice A n c) (.slice B m d)) (own : Own2 (p + 1) w A n c B m d xs ys) (hx : w.cell? ⟨b, off + k, none⟩ = some (.int .i64 x)) (hk : k < N) (hN : N ≤ 1048576) (hq : q < p) (hb : b < p) (hl1 : m ≤ 1048576)
    (hQ : ∀ (f : Nat → Value) (g cap : Nat) (w' : World) (T : List Nat), Kp T w w' → (∀ t ∈ T, p ≤ t) → Fx w' p 27 (.slice A n c) (.slice (some ⟨g, 0, none⟩) (m + 1) cap) → Own2 (p + 1) w' A n c (some ⟨g, 0, none⟩) (m + 1) cap xs (ys ++ [x]) → Q .normal (putAll f tr9Ops a0) w') :
    (Code.region id tr9Ops.toArray true).wp Try.prog Q a0 w := by
  have hp := acc.lt
  have s := chb_of own hp
  have fq := far_of own hq
  have fb := far_of own hb
  have hk0 : (0 : Int) ≤ (k : Int) := by omega
  have hk1 : (k : Int) < (N : Int) := by omega
  refine wp_region_tab (n := 54) (by kernel_rfl) (by kernel_rfl) hn
    [(1, .pointer (some ⟨q, 0, none⟩)), (4, .pointer (some ⟨p, 0, none⟩)), (5, .int .i64 (k : Int)), (43, .pointer (some ⟨p, 1, none⟩)), (44, (.slice B m d)), (45, .pointer (some ⟨q, 1, none⟩)), (46, (.slice (some ⟨b, off, none⟩) N C)), (47, .int .i64 (k : Int)), (48, .pointer (some ⟨b, off + k, none⟩)), (49, .int .i64 x), (52, .pointer (some ⟨p, 1, none⟩))]
    (fun done f w' => Ch2 w p (p + 1) A n c B m d xs ys 0 x 27 false false false (done 7) (done 8) (done 10) undef undef (f 50) (f 51) w') ?_ (Ch2.start s acc own) ?_ ?_
  · exact ⟨.inr h1, .inr h4, .inr h5, .inl rfl, .inl rfl, .inl rfl, .inl rfl, .inl rfl, .inl rfl, .inl rfl, .inl rfl, trivial⟩
  · refine ⟨?_, ?_, ?_, ?_, ?_, ?_, ?_, ?_, ?_, ?_, ?_, trivial⟩
    · intro a w' done hc h0 hd hl hM
      have e1 : a.eval (.tmp 4) = _ := hl.1 _ rfl
      refine pureT (v := .pointer (some ⟨p, 1, none⟩)) (w := w') ?_ ⟨?_, ?_⟩
      · clear hl hM hd hc h0
        simp only [execOp, e1]
        go_simp
      · exact val1 fun u hu => Option.some.inj hu
      · exact hM
    · intro a w' done hc h0 hd hl hM
      have e1 : a.eval (.tmp 43) = _ := hl.1 _ rfl
      have n8 : done 8 = false := hc.not (j := 8) rfl h0 ⟨⟨1, .data⟩, by simp, rfl, rfl⟩
      have n10 : done 10 = false := hc.not (j := 10) rfl n8 ⟨⟨8, .data⟩, by simp, rfl, rfl⟩
      have hc1 : w'.cell? ⟨p, 1, none⟩ = some (.slice B m d) := by
        have := hM.acc.c1
        simpa [n10] using this
      refine pureT (v := (.slice B m d)) (w := w') ?_ ⟨?_, ?_⟩
      · clear hl hM hd hc h0
        simp only [execOp, e1]
        go_simp
      · exact val1 fun u hu => Option.some.inj hu
      · exact hM
    · intro a w' done hc h0 hd hl hM
      have e1 : a.eval (.tmp 1) = _ := hl.1 _ rfl
      refine pureT (v := .pointer (some ⟨q, 1, none⟩)) (w := w') ?_ ⟨?_, ?_⟩
      · clear hl hM hd hc h0
        simp only [execOp, e1]
        go_simp
      · exact val1 fun u hu => Option.some.inj hu
      · exact hM
    · intro a w' done hc h0 hd hl hM
      have e1 : a.eval (.tmp 45) = _ := hl.1 _ rfl
      have hc1 : w'.cell? ⟨q, 1, none⟩ = some (.slice (some ⟨b, off, none⟩) N C) := (hM.k.cell (p := ⟨q, 1, none⟩) arg.lt fq).trans arg.c1
      refine pureT (v := (.slice (some ⟨b, off, none⟩) N C)) (w := w') ?_ ⟨?_, ?_⟩
      · clear hl hM hd hc h0
        simp only [execOp, e1]
        go_simp
      · exact val1 fun u hu => Option.some.inj hu
      · exact hM
    · intro a w' done hc h0 hd hl hM
      have e1 : a.eval (.tmp 5) = _ := hl.1 _ rfl
      refine pureT (v := .int .i64 (k : Int)) (w := w') ?_ ⟨?_, ?_⟩
      · clear hl hM hd hc h0
        simp only [execOp, e1]
        go_simp
      · exact val1 fun u hu => Option.some.inj hu
      · exact hM
    · intro a w' done hc h0 hd hl hM
      have e1 : a.eval (.tmp 46) = _ := hl.1 _ rfl
      have e2 : a.eval (.tmp 47) = _ := hl.2.1 _ rfl
      refine pureT (v := .pointer (some ⟨b, off + k, none⟩)) (w := w') ?_ ⟨?_, ?_⟩
      · clear hl hM hd hc h0
        simp only [execOp, e1, e2]
        go_simp
      · exact val1 fun u hu => Option.some.inj hu
      · exact hM
    · intro a w' done hc h0 hd hl hM
      have e1 : a.eval (.tmp 48) = _ := hl.1 _ rfl
      have hc1 : w'.cell? ⟨b, off + k, none⟩ = some (.int .i64 x) := (hM.k.cell (p := ⟨b, off + k, none⟩) (by simp only; omega) fb).trans hx
      refine pureT (v := .int .i64 x) (w := w') ?_ ⟨?_, ?_⟩
      · clear hl hM hd hc h0
        simp only [execOp, e1]
        go_simp
      · exact val1 fun u hu => Option.some.inj hu
      · exact hM
    · intro a w' done hc h0 hd hl hM
      have e1 : a.eval (.tmp 49) = _ := hl.1 _ rfl
      have n8 : done 8 = false := hc.not (j := 8) rfl h0 ⟨⟨7, .data⟩, by simp, rfl, rfl⟩
      refine pureT (v := .slice (some ⟨w'.heap.size, 0, none⟩) 1 1) (w := w'.alloc (.cells #[.int .i64 x] 2)) ?_ ⟨?_, ?_⟩
      · have e2 : a.tmps[49]?.getD undef = .int .i64 x := by simpa [Act.eval] using e1
        clear hl hM hd hc h0 e1
        simp only [execOp]
        go_simp
      · exact val1 fun u hu => (by have hn : none = some u := hu; cases hn)
      · simp only [n8] at hM
        have := hM.build2 2
        simpa [upd, updF, n8] using this
    · intro a w' done hc h0 hd hl hM
      have e1 : a.eval (.tmp 44) = _ := hl.1 _ rfl
      have n7 : done 7 = true := hd ⟨7, .data⟩ (by simp) rfl
      have n10 : done 10 = false := hc.not (j := 10) rfl h0 ⟨⟨8, .data⟩, by simp, rfl, rfl⟩
      simp only [n7, h0, n10] at hM
      obtain ⟨g, cap, w2, hr, h2⟩ := Ch2.app2 s hM (by omega) hl1
      refine pureT (v := .slice (some ⟨g, 0, none⟩) (m + 1) cap) (w := w2) ?_ ⟨?_, ?_⟩
      · have e2 : a.eval (.tmp 50) = a.tmps.getD 50 undef := rfl
        unfold execOp
        simp only [resolve, invoke, builtin, Sem.run_bind, Sem.run_pure, Result.andThen_ok, List.map_toArray, List.map_cons, List.map_nil, e1, e2, hr]
      · exact val1 fun u hu => (by have hn : none = some u := hu; cases hn)
      · simpa [upd, updF, n7, n10] using h2
    · intro a w' done hc h0 hd hl hM
      have e1 : a.eval (.tmp 4) = _ := hl.1 _ rfl
      refine pureT (v := .pointer (some ⟨p, 1, none⟩)) (w := w') ?_ ⟨?_, ?_⟩
      · clear hl hM hd hc h0
        simp only [execOp, e1]
        go_simp
      · exact val1 fun u hu => Option.some.inj hu
      · exact hM
    · intro a w' done hc h0 hd hl hM
      have e1 : a.eval (.tmp 52) = _ := hl.1 _ rfl
      have n8 : done 8 = true := hd ⟨8, .data⟩ (by simp) rfl
      simp only [n8] at hM
      obtain ⟨g, cap, ev, _, _⟩ := hM.r.new rfl
      have e2 : a.eval (.tmp 51) = _ := ev
      have hc1 := hM.acc.c1
      have hf1 := hM.acc.f 1
      refine skipT (w := w'.setCell ⟨p, 1, none⟩ (a.tmps.getD 51 undef)) ?_ ⟨val0, ?_⟩
      · rw [ev]
        clear hl hM hd hc h0
        simp only [execOp, e1, e2]
        go_simp
      · have := Ch2.store2 s hM
        simpa [upd, updF, n8] using this
  · intro f w' done hd hM hv
    have n7 := hd 7 (by decide)
    have n8 := hd 8 (by decide)
    have n10 := hd 10 (by decide)
    simp only [n7, n8, n10] at hM
    obtain ⟨g, cap, ev, hg, _⟩ := hM.r.new rfl
    have o1 := hM.l.own
    have o2 := hM.r.own
    have ac := hM.acc
    simp only [ev, if_true, Bool.false_eq_true, if_false] at o1 o2 ac
    refine hQ f g cap w' (p :: bl A B) hM.k ?_ ac ⟨o1, o2, ?_⟩
    · intro t ht
      rcases List.mem_cons.1 ht with e | e
      · omega
      · have := (own.lt t e).1; omega
    · intro u v hu hv e
      injection hv with hv
      subst hv
      simp only at e
      have hu' : A.map (·.block) = some u.block := by rw [hu]; rfl
      rcases hg with hg | hg
      · rw [← e] at hg
        exact s.ne' hu' hg
      · have := (s.b _ (memL (B := B) hu')).1
        omega
end Go.Proofs.Ytloffnamjgnkhaa
