/-
  The region of the program's TrimScale that appends one number to each of two lists. Conditions: those that each theorem names.
-/
import Derived.Test.YtloffnamjgnkhaaChain
import Derived.Test.YtloffnamjgnkhaaTrimR
namespace Go.Proofs.Ytloffnamjgnkhaa
open Go.RowKit Mem Flo
open Go.Proofs.Ytloffnamjgnkhaa.Inv
set_option linter.unusedSimpArgs false

abbrev tiOps : List Oper :=
  [{ dst := some 36, op := Op.fieldAddr 27 (Operand.tmp 4) 0, type := 0, pos := "l02_scales.go:242", after := #[], guard := none },
   { dst := some 37, op := Op.load 22 (Operand.tmp 36), type := 22, pos := "l02_scales.go:242", after := #[{ on := 0, ground := Ground.data }], guard := none },
   { dst := some 38, op := Op.move (Operand.tmp 6), type := 2, pos := "l02_scales.go:242", after := #[], guard := none },
   { dst := some 39, op := Op.buildSlice 22 1 #[(0, Operand.tmp 38)], type := 22, pos := "l02_scales.go:242", after := #[{ on := 2, ground := Ground.data }], guard := none },
   { dst := some 40, op := Op.call { callee := Callee.builtin Builtin.append, args := #[Operand.tmp 37, Operand.tmp 39], argTypes := #[22, 22] }, type := 22, pos := "l02_scales.go:242", after := #[{ on := 1, ground := Ground.data }, { on := 3, ground := Ground.data }], guard := none },
   { dst := some 41, op := Op.fieldAddr 27 (Operand.tmp 4) 1, type := 0, pos := "l02_scales.go:242", after := #[], guard := none },
   { dst := some 42, op := Op.load 22 (Operand.tmp 41), type := 22, pos := "l02_scales.go:242", after := #[{ on := 5, ground := Ground.data }], guard := none },
   { dst := some 43, op := Op.fieldAddr 27 (Operand.tmp 1) 1, type := 0, pos := "l02_scales.go:242", after := #[], guard := none },
   { dst := some 44, op := Op.load 22 (Operand.tmp 43), type := 22, pos := "l02_scales.go:242", after := #[{ on := 7, ground := Ground.data }], guard := none },
   { dst := some 45, op := Op.move (Operand.tmp 5), type := 3, pos := "l02_scales.go:242", after := #[], guard := none },
   { dst := some 46, op := Op.indexAddr 22 (Operand.tmp 44) (Operand.tmp 45), type := 0, pos := "l02_scales.go:242", after := #[{ on := 8, ground := Ground.data }, { on := 9, ground := Ground.data }], guard := none },
   { dst := some 47, op := Op.load 2 (Operand.tmp 46), type := 2, pos := "l02_scales.go:242", after := #[{ on := 10, ground := Ground.data }], guard := none },
   { dst := some 48, op := Op.buildSlice 22 1 #[(0, Operand.tmp 47)], type := 22, pos := "l02_scales.go:242", after := #[{ on := 11, ground := Ground.data }], guard := none },
   { dst := some 49, op := Op.call { callee := Callee.builtin Builtin.append, args := #[Operand.tmp 42, Operand.tmp 48], argTypes := #[22, 22] }, type := 22, pos := "l02_scales.go:242", after := #[{ on := 6, ground := Ground.data }, { on := 12, ground := Ground.data }, { on := 4, ground := Ground.chain }], guard := none },
   { dst := some 50, op := Op.fieldAddr 27 (Operand.tmp 4) 0, type := 0, pos := "l02_scales.go:242", after := #[{ on := 0, ground := Ground.phase }, { on := 1, ground := Ground.phase }, { on := 2, ground := Ground.phase }, { on := 3, ground := Ground.phase }, { on := 4, ground := Ground.phase }, { on := 5, ground := Ground.phase }, { on := 6, ground := Ground.phase }, { on := 7, ground := Ground.textOnly Departure.lateStores }, { on := 8, ground := Ground.textOnly Departure.lateStores }, { on := 9, ground := Ground.textOnly Departure.lateStores }, { on := 10, ground := Ground.textOnly Departure.lateStores }, { on := 11, ground := Ground.textOnly Departure.lateStores }, { on := 12, ground := Ground.textOnly Departure.lateStores }, { on := 13, ground := Ground.textOnly Departure.lateStoresUnsure }], guard := none },
   { dst := none, op := Op.store 22 (Operand.tmp 50) (Operand.tmp 40), type := 0, pos := "l02_scales.go:242", after := #[{ on := 14, ground := Ground.data }, { on := 4, ground := Ground.data }, { on := 13, ground := Ground.chain }, { on := 0, ground := Ground.phase }, { on := 1, ground := Ground.phase }, { on := 2, ground := Ground.phase }, { on := 3, ground := Ground.phase }, { on := 4, ground := Ground.phase }, { on := 5, ground := Ground.phase }, { on := 6, ground := Ground.phase }, { on := 7, ground := Ground.textOnly Departure.lateStores }, { on := 8, ground := Ground.textOnly Departure.lateStores }, { on := 9, ground := Ground.textOnly Departure.lateStores }, { on := 10, ground := Ground.textOnly Departure.lateStores }, { on := 11, ground := Ground.textOnly Departure.lateStores }, { on := 12, ground := Ground.textOnly Departure.lateStores }, { on := 13, ground := Ground.textOnly Departure.lateStoresUnsure }], guard := none },
   { dst := some 51, op := Op.fieldAddr 27 (Operand.tmp 4) 1, type := 0, pos := "l02_scales.go:242", after := #[{ on := 0, ground := Ground.phase }, { on := 1, ground := Ground.phase }, { on := 2, ground := Ground.phase }, { on := 3, ground := Ground.phase }, { on := 4, ground := Ground.phase }, { on := 5, ground := Ground.phase }, { on := 6, ground := Ground.phase }, { on := 7, ground := Ground.phase }, { on := 8, ground := Ground.phase }, { on := 9, ground := Ground.phase }, { on := 10, ground := Ground.phase }, { on := 11, ground := Ground.phase }, { on := 12, ground := Ground.phase }, { on := 13, ground := Ground.phase }, { on := 14, ground := Ground.phase }, { on := 15, ground := Ground.phase }], guard := none },
   { dst := none, op := Op.store 22 (Operand.tmp 51) (Operand.tmp 49), type := 0, pos := "l02_scales.go:242", after := #[{ on := 16, ground := Ground.data }, { on := 13, ground := Ground.data }, { on := 15, ground := Ground.chain }, { on := 0, ground := Ground.phase }, { on := 1, ground := Ground.phase }, { on := 2, ground := Ground.phase }, { on := 3, ground := Ground.phase }, { on := 4, ground := Ground.phase }, { on := 5, ground := Ground.phase }, { on := 6, ground := Ground.phase }, { on := 7, ground := Ground.phase }, { on := 8, ground := Ground.phase }, { on := 9, ground := Ground.phase }, { on := 10, ground := Ground.phase }, { on := 11, ground := Ground.phase }, { on := 12, ground := Ground.phase }, { on := 13, ground := Ground.phase }, { on := 14, ground := Ground.phase }, { on := 15, ground := Ground.phase }], guard := none }]

set_option maxRecDepth 100000 in
set_option maxHeartbeats 2000000 in
theorem ti8 {id : Nat} {a0 : Act} {w : World} {Q : Exit → Act → World → Prop} {p q b off k N C n c m d : Nat} {A B : Option Addr} {xs ys : List Int} {x y : Int} {V : Value} (hn : a0.tmps.size = 54)
    (h4 : a0.tmps.getD 4 undef = .pointer (some ⟨p, 0, none⟩)) (h1 : a0.tmps.getD 1 undef = .pointer (some ⟨q, 0, none⟩)) (h5 : a0.tmps.getD 5 undef = .int .i64 (k : Int)) (h6 : a0.tmps.getD 6 undef = .int .i64 x)
    (arg : Fx w q 27 V (.slice (some ⟨b, off, none⟩) N C)) (acc : Fx w p 27 (.slice A n c) (.slice B m d)) (own : Own2 (p + 1) w A n c B m d xs ys) (hy : w.cell? ⟨b, off + k, none⟩ = some (.int .i64 y)) (hk : k < N) (hN : N ≤ 1048576) (hq : q < p) (hb : b < p) (hl1 : n ≤ 1048576) (hl2 : m ≤ 1048576)
    (hQ : ∀ (f : Nat → Value) (A2 : Option Addr) (c2 : Nat) (B2 : Option Addr) (d2 : Nat) (w' : World) (T : List Nat), Kp T w w' → (∀ t ∈ T, p ≤ t) → Fx w' p 27 (.slice A2 (n + 1) c2) (.slice B2 (m + 1) d2) → Own2 (p + 1) w' A2 (n + 1) c2 B2 (m + 1) d2 (xs ++ [x]) (ys ++ [y]) → Q .normal (putAll f tiOps a0) w') :
    (Code.region id tiOps.toArray true).wp Try.prog Q a0 w := by
  have hp := acc.lt
  have s := chb_of own hp
  have fq := far_of own hq
  have fb := far_of own hb
  have hk0 : (0 : Int) ≤ (k : Int) := by omega
  have hk1 : (k : Int) < (N : Int) := by omega
  refine wp_region_tab (n := 54) (by kernel_rfl) (by kernel_rfl) hn
    [(1, .pointer (some ⟨q, 0, none⟩)), (4, .pointer (some ⟨p, 0, none⟩)), (5, .int .i64 (k : Int)), (6, .int .i64 x), (36, .pointer (some ⟨p, 0, none⟩)), (37, (.slice A n c)), (38, .int .i64 x), (41, .pointer (some ⟨p, 1, none⟩)), (42, (.slice B m d)), (43, .pointer (some ⟨q, 1, none⟩)), (44, (.slice (some ⟨b, off, none⟩) N C)), (45, .int .i64 (k : Int)), (46, .pointer (some ⟨b, off + k, none⟩)), (47, .int .i64 y), (50, .pointer (some ⟨p, 0, none⟩)), (51, .pointer (some ⟨p, 1, none⟩))]
    (fun done f w' => Ch2 w p (p + 1) A n c B m d xs ys x y 27 (done 3) (done 4) (done 15) (done 12) (done 13) (done 17) (f 39) (f 40) (f 48) (f 49) w') ?_ (Ch2.start s acc own) ?_ ?_
  · exact ⟨.inr h1, .inr h4, .inr h5, .inr h6, .inl rfl, .inl rfl, .inl rfl, .inl rfl, .inl rfl, .inl rfl, .inl rfl, .inl rfl, .inl rfl, .inl rfl, .inl rfl, .inl rfl, trivial⟩
  · refine ⟨?_, ?_, ?_, ?_, ?_, ?_, ?_, ?_, ?_, ?_, ?_, ?_, ?_, ?_, ?_, ?_, ?_, ?_, trivial⟩
    · intro a w' done hc h0 hd hl hM
      have e1 : a.eval (.tmp 4) = _ := hl.1 _ rfl
      refine pureT (v := .pointer (some ⟨p, 0, none⟩)) (w := w') ?_ ⟨?_, ?_⟩
      · clear hl hM hd hc h0
        simp only [execOp, e1]
        go_simp
      · exact val1 fun u hu => Option.some.inj hu
      · exact hM
    · intro a w' done hc h0 hd hl hM
      have e1 : a.eval (.tmp 36) = _ := hl.1 _ rfl
      have na : done 4 = false := hc.not (j := 4) rfl h0 ⟨⟨1, .data⟩, by simp, rfl, rfl⟩
      have ns : done 15 = false := hc.not (j := 15) rfl na ⟨⟨4, .data⟩, by simp, rfl, rfl⟩
      have hc1 : w'.cell? ⟨p, 0, none⟩ = some (.slice A n c) := by
        have := hM.acc.c0
        simpa [ns] using this
      refine pureT (v := (.slice A n c)) (w := w') ?_ ⟨?_, ?_⟩
      · clear hl hM hd hc h0
        simp only [execOp, e1]
        go_simp
      · exact val1 fun u hu => Option.some.inj hu
      · exact hM
    · intro a w' done hc h0 hd hl hM
      have e1 : a.eval (.tmp 6) = _ := hl.1 _ rfl
      refine pureT (v := .int .i64 x) (w := w') ?_ ⟨?_, ?_⟩
      · clear hl hM hd hc h0
        simp only [execOp, e1]
        go_simp
      · exact val1 fun u hu => Option.some.inj hu
      · exact hM
    · intro a w' done hc h0 hd hl hM
      have e1 : a.eval (.tmp 38) = _ := hl.1 _ rfl
      have na : done 4 = false := hc.not (j := 4) rfl h0 ⟨⟨3, .data⟩, by simp, rfl, rfl⟩
      refine pureT (v := .slice (some ⟨w'.heap.size, 0, none⟩) 1 1) (w := w'.alloc (.cells #[.int .i64 x] 2)) ?_ ⟨?_, ?_⟩
      · have e2 : a.tmps[38]?.getD undef = .int .i64 x := by simpa [Act.eval] using e1
        clear hl hM hd hc h0 e1
        simp only [execOp]
        go_simp
      · exact val1 fun u hu => (by have hn : none = some u := hu; cases hn)
      · simp only [na] at hM
        have := hM.build1 2
        simpa [upd, updF, na] using this
    · intro a w' done hc h0 hd hl hM
      have e1 : a.eval (.tmp 37) = _ := hl.1 _ rfl
      have nb : done 3 = true := hd ⟨3, .data⟩ (by simp) rfl
      have ns : done 15 = false := hc.not (j := 15) rfl h0 ⟨⟨4, .data⟩, by simp, rfl, rfl⟩
      simp only [nb, h0, ns] at hM
      obtain ⟨g, cap, w2, hr, h2⟩ := Ch2.app1 s hM (by omega) hl1
      refine pureT (v := .slice (some ⟨g, 0, none⟩) (n + 1) cap) (w := w2) ?_ ⟨?_, ?_⟩
      · have e2 : a.eval (.tmp 39) = a.tmps.getD 39 undef := rfl
        unfold execOp
        simp only [resolve, invoke, builtin, Sem.run_bind, Sem.run_pure, Result.andThen_ok, List.map_toArray, List.map_cons, List.map_nil, e1, e2, hr]
      · exact val1 fun u hu => (by have hn : none = some u := hu; cases hn)
      · simpa [upd, updF, nb, ns] using h2
    · intro a w' done hc h0 hd hl hM
      have e1 : a.eval (.tmp 4) = _ := hl.1 _ rfl
      refine pureT (v := .pointer (some ⟨p, 1, none⟩)) (w := w') ?_ ⟨?_, ?_⟩
      · clear hl hM hd hc h0
        simp only [execOp, e1]
        go_simp
      · exact val1 fun u hu => Option.some.inj hu
      · exact hM
    · intro a w' done hc h0 hd hl hM
      have e1 : a.eval (.tmp 41) = _ := hl.1 _ rfl
      have na : done 13 = false := hc.not (j := 13) rfl h0 ⟨⟨6, .data⟩, by simp, rfl, rfl⟩
      have ns : done 17 = false := hc.not (j := 17) rfl na ⟨⟨13, .data⟩, by simp, rfl, rfl⟩
      have hc1 : w'.cell? ⟨p, 1, none⟩ = some (.slice B m d) := by
        have := hM.acc.c1
        simpa [ns] using this
      refine pureT (v := (.slice B m d)) (w := w') ?_ ⟨?_, ?_⟩
      · clear hl hM hd hc h0
        simp only [execOp, e1]
        go_simp
      · exact val1 fun u hu => Option.some.inj hu
      · exact hM
    · intro a w' done hc h0 hd hl hM
      have e1 : a.eval (.tmp 1) = _ := hl.1 _ rfl
      refine pureT (v := .pointer (some ⟨q, 1, none⟩)) (w := w') ?_ ⟨?_, ?_⟩
      · clear hl hM hd hc h0
        simp only [execOp, e1]
        go_simp
      · exact val1 fun u hu => Option.some.inj hu
      · exact hM
    · intro a w' done hc h0 hd hl hM
      have e1 : a.eval (.tmp 43) = _ := hl.1 _ rfl
      have hc1 : w'.cell? ⟨q, 1, none⟩ = some (.slice (some ⟨b, off, none⟩) N C) := (hM.k.cell (p := ⟨q, 1, none⟩) arg.lt fq).trans arg.c1
      refine pureT (v := (.slice (some ⟨b, off, none⟩) N C)) (w := w') ?_ ⟨?_, ?_⟩
      · clear hl hM hd hc h0
        simp only [execOp, e1]
        go_simp
      · exact val1 fun u hu => Option.some.inj hu
      · exact hM
    · intro a w' done hc h0 hd hl hM
      have e1 : a.eval (.tmp 5) = _ := hl.1 _ rfl
      refine pureT (v := .int .i64 (k : Int)) (w := w') ?_ ⟨?_, ?_⟩
      · clear hl hM hd hc h0
        simp only [execOp, e1]
        go_simp
      · exact val1 fun u hu => Option.some.inj hu
      · exact hM
    · intro a w' done hc h0 hd hl hM
      have e1 : a.eval (.tmp 44) = _ := hl.1 _ rfl
      have e2 : a.eval (.tmp 45) = _ := hl.2.1 _ rfl
      refine pureT (v := .pointer (some ⟨b, off + k, none⟩)) (w := w') ?_ ⟨?_, ?_⟩
      · clear hl hM hd hc h0
        simp only [execOp, e1, e2]
        go_simp
      · exact val1 fun u hu => Option.some.inj hu
      · exact hM
    · intro a w' done hc h0 hd hl hM
      have e1 : a.eval (.tmp 46) = _ := hl.1 _ rfl
      have hc1 : w'.cell? ⟨b, off + k, none⟩ = some (.int .i64 y) := (hM.k.cell (p := ⟨b, off + k, none⟩) (by simp only; omega) fb).trans hy
      refine pureT (v := .int .i64 y) (w := w') ?_ ⟨?_, ?_⟩
      · clear hl hM hd hc h0
        simp only [execOp, e1]
        go_simp
      · exact val1 fun u hu => Option.some.inj hu
      · exact hM
    · intro a w' done hc h0 hd hl hM
      have e1 : a.eval (.tmp 47) = _ := hl.1 _ rfl
      have na : done 13 = false := hc.not (j := 13) rfl h0 ⟨⟨12, .data⟩, by simp, rfl, rfl⟩
      refine pureT (v := .slice (some ⟨w'.heap.size, 0, none⟩) 1 1) (w := w'.alloc (.cells #[.int .i64 y] 2)) ?_ ⟨?_, ?_⟩
      · have e2 : a.tmps[47]?.getD undef = .int .i64 y := by simpa [Act.eval] using e1
        clear hl hM hd hc h0 e1
        simp only [execOp]
        go_simp
      · exact val1 fun u hu => (by have hn : none = some u := hu; cases hn)
      · simp only [na] at hM
        have := hM.build2 2
        simpa [upd, updF, na] using this
    · intro a w' done hc h0 hd hl hM
      have e1 : a.eval (.tmp 42) = _ := hl.1 _ rfl
      have nb : done 12 = true := hd ⟨12, .data⟩ (by simp) rfl
      have ns : done 17 = false := hc.not (j := 17) rfl h0 ⟨⟨13, .data⟩, by simp, rfl, rfl⟩
      simp only [nb, h0, ns] at hM
      obtain ⟨g, cap, w2, hr, h2⟩ := Ch2.app2 s hM (by omega) hl2
      refine pureT (v := .slice (some ⟨g, 0, none⟩) (m + 1) cap) (w := w2) ?_ ⟨?_, ?_⟩
      · have e2 : a.eval (.tmp 48) = a.tmps.getD 48 undef := rfl
        unfold execOp
        simp only [resolve, invoke, builtin, Sem.run_bind, Sem.run_pure, Result.andThen_ok, List.map_toArray, List.map_cons, List.map_nil, e1, e2, hr]
      · exact val1 fun u hu => (by have hn : none = some u := hu; cases hn)
      · simpa [upd, updF, nb, ns] using h2
    · intro a w' done hc h0 hd hl hM
      have e1 : a.eval (.tmp 4) = _ := hl.1 _ rfl
      refine pureT (v := .pointer (some ⟨p, 0, none⟩)) (w := w') ?_ ⟨?_, ?_⟩
      · clear hl hM hd hc h0
        simp only [execOp, e1]
        go_simp
      · exact val1 fun u hu => Option.some.inj hu
      · exact hM
    · intro a w' done hc h0 hd hl hM
      have e1 : a.eval (.tmp 50) = _ := hl.1 _ rfl
      have na : done 4 = true := hd ⟨4, .data⟩ (by simp) rfl
      simp only [na] at hM
      obtain ⟨g, cap, ev, _, _⟩ := hM.l.new rfl
      have e2 : a.eval (.tmp 40) = _ := ev
      have hc1 := hM.acc.c0
      have hf1 := hM.acc.f 0
      refine skipT (w := w'.setCell ⟨p, 0, none⟩ (a.tmps.getD 40 undef)) ?_ ⟨val0, ?_⟩
      · rw [ev]
        clear hl hM hd hc h0
        simp only [execOp, e1, e2]
        go_simp
      · have := Ch2.store1 s hM
        simpa [upd, updF, na] using this
    · intro a w' done hc h0 hd hl hM
      have e1 : a.eval (.tmp 4) = _ := hl.1 _ rfl
      refine pureT (v := .pointer (some ⟨p, 1, none⟩)) (w := w') ?_ ⟨?_, ?_⟩
      · clear hl hM hd hc h0
        simp only [execOp, e1]
        go_simp
      · exact val1 fun u hu => Option.some.inj hu
      · exact hM
    · intro a w' done hc h0 hd hl hM
      have e1 : a.eval (.tmp 51) = _ := hl.1 _ rfl
      have na : done 13 = true := hd ⟨13, .data⟩ (by simp) rfl
      simp only [na] at hM
      obtain ⟨g, cap, ev, _, _⟩ := hM.r.new rfl
      have e2 : a.eval (.tmp 49) = _ := ev
      have hc1 := hM.acc.c1
      have hf1 := hM.acc.f 1
      refine skipT (w := w'.setCell ⟨p, 1, none⟩ (a.tmps.getD 49 undef)) ?_ ⟨val0, ?_⟩
      · rw [ev]
        clear hl hM hd hc h0
        simp only [execOp, e1, e2]
        go_simp
      · have := Ch2.store2 s hM
        simpa [upd, updF, na] using this
  · intro f w' done hd hM hv
    have n3 := hd 3 (by decide)
    have n4 := hd 4 (by decide)
    have n15 := hd 15 (by decide)
    have n12 := hd 12 (by decide)
    have n13 := hd 13 (by decide)
    have n17 := hd 17 (by decide)
    simp only [n3, n4, n15, n12, n13, n17] at hM
    obtain ⟨g, cap, ev, _, _⟩ := hM.l.new rfl
    obtain ⟨g2, cap2, ev2, _, _⟩ := hM.r.new rfl
    have ap := hM.apart rfl rfl
    have o1 := hM.l.own
    have o2 := hM.r.own
    have ac := hM.acc
    simp only [ev, ev2, if_true] at o1 o2 ac ap
    refine hQ f _ cap _ cap2 w' (p :: bl A B) hM.k ?_ ac ⟨o1, o2, ?_⟩
    · intro t ht
      rcases List.mem_cons.1 ht with e | e
      · omega
      · have := (own.lt t e).1; omega
    · intro u v hu hv e
      injection hu with hu
      injection hv with hv
      subst hu hv
      simp only at e
      subst e
      exact ap rfl
end Go.Proofs.Ytloffnamjgnkhaa
