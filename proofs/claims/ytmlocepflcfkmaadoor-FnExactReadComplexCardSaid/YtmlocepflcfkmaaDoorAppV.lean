/-
  append of one value to an owned slice: what the run gives. Conditions: the slice is owned and not too long.
-/
import Derived.Test.YtmlocepflcfkmaaDoorApp
import Derived.Test.YtmlocepflcfkmaaDoorMark
namespace Go.Proofs.YtmlocepflcfkmaaDoor
open Go.RowKit Mem

/-- Blocks that came later turn. -/
theorem Mem.Kp.later {w w' w2 : World} {T : List Nat} (h : Kp [] w w') (k : Kp T w' w2) (hT : ∀ t ∈ T, w.heap.size ≤ t) : Kp [] w w2 :=
  (h.trans k).mono (by intro t ht hlt; have := hT t (by simpa using ht); omega)

/-- append of one new cell. -/
theorem run_app_v {Bd : Nat} {t e : TypeId} {i : TypeInfo} {z : Value} {bytes : Nat} (ht : Tryd.prog.underlying t = some (.slice e)) (hi : Tryd.prog.info? e = some i) (hz : i.zero = some z) (hsize : i.size = 1) (hby : i.bytes = bytes) (hb16 : bytes ≤ 16) (hzs : z.cells.size = 1)
    {v : Value} {xs : List Value} {x : Value} {w : World} (h : w.ownsRow Bd e 1 v xs.length xs) (hx : x.oneCell' = true) (hB : Bd ≤ w.heap.size) (hn : xs.length ≤ 1048576) :
    ∃ g cap w', (Builtin.append_ #[t, t] t #[v, .slice (some ⟨w.heap.size, 0, none⟩) 1 1]).run Tryd.prog (w.alloc (.cells #[x] e)) = .ok (.slice (some ⟨g, 0, none⟩) (xs.length + 1) cap) w' ∧
      Kp v.ownBlock.toList w w' ∧ (v.ownBlock = some g ∨ w.heap.size < g) ∧ g < w'.heap.size ∧ Bd ≤ g ∧ w'.ownsRow Bd e 1 (.slice (some ⟨g, 0, none⟩) (xs ++ [x]).length cap) (xs ++ [x]).length (xs ++ [x]) := by
  have h0 : (w.alloc (.cells #[x] e)).ownsRow Bd e 1 v xs.length xs := World.ownsRow.alloc h _
  obtain ⟨g, cap, w', hr, o1, hg, hat, hlt, hbg⟩ := run_app (P := Tryd.prog) (w := w.alloc (.cells #[x] e)) t t Bd e i z 1 bytes ht hi hz hsize hby hzs (by omega) v xs.length xs h0
    ⟨w.heap.size, 0, none⟩ 1 1 [x] rfl (by
      intro j u hj
      cases j with
      | zero => simp at hj; subst hj; simp [go_sem]
      | succ j => simp at hj) (by intro u hu; simp at hu; subst hu; exact hx) (by omega) (by simp only [maxLen]; omega) (by
        have : (xs.length + 1) * bytes ≤ (xs.length + 1) * 16 := Nat.mul_le_mul_left _ hb16
        omega) (by simp; omega)
  refine ⟨g, cap, w', hr, ?_, ?_, hlt, hbg, ?_⟩
  · have hk := (Kp.refl w).alloc (.cells #[x] e)
    refine ⟨hg.os.trans hk.os, hg.tape.trans hk.tape, hg.output.trans hk.output, Nat.le_trans hk.size hg.size, fun k hk' hn => ?_⟩
    exact (hg.block k (Nat.lt_of_lt_of_le hk' hk.size) (fun e => hn (by rw [← e]; simp))).trans (hk.block k hk' (by simp))
  · rcases hat with hat | hat
    · exact .inl hat
    · right; rw [hat]; simp
  · rw [List.length_append]
    exact o1

theorem wpList_appE {P : Program} {ops : Array Oper} {rest : List Oper} {o : Oper} {a : Act} {w : World} {Q : Exit → Act → World → Prop} (hgd : o.guard = none) (s x : Operand) (t : TypeId)
    (ho : o.op = .call { callee := .builtin .append, args := #[s, x], argTypes := #[t, t] }) {v : Value} {w' : World} (hr : (Builtin.append_ #[t, t] o.type #[a.eval s, a.eval x]).run P w = .ok v w')
    (h : wpList P ops Q rest (a.put o.dst v) w') : wpList P ops Q (o :: rest) a w := by
  refine wpList_plain hgd fun K hK => ?_
  unfold Oper.wp execOp
  simp only [ho, resolve, invoke, builtin, Sem.run_bind, Sem.run_pure, Result.andThen_ok, List.map_toArray, List.map_cons, List.map_nil, hr]
  exact hK _ _ h

/-- An int64 more. -/
theorem run_app_i {Bd : Nat} {v : Value} {xs : List Int} {x : Int} {w : World} (h : Own Bd w v xs) (hB : Bd ≤ w.heap.size) (hn : xs.length ≤ 1048576) :
    ∃ g cap w', (Builtin.append_ #[22, 22] 22 #[v, .slice (some ⟨w.heap.size, 0, none⟩) 1 1]).run Tryd.prog (w.alloc (.cells #[.int .i64 x] 2)) = .ok (.slice (some ⟨g, 0, none⟩) (xs.length + 1) cap) w' ∧
      Kp v.ownBlock.toList w w' ∧ (v.ownBlock = some g ∨ w.heap.size < g) ∧ g < w'.heap.size ∧ Own Bd w' (.slice (some ⟨g, 0, none⟩) (xs.length + 1) cap) (xs ++ [x]) := by
  obtain ⟨i0, hi0, hz0, hz1, hz2⟩ := info_parts (show (Tryd.prog.info? 2).map (fun i => (i.zero, i.size, i.bytes)) = some (some (.int .i64 0), 1, 8) by kernel_rfl)
  have h' : w.ownsRow Bd 2 1 v (valsI xs).length (valsI xs) := by rw [valsI_len]; exact h
  obtain ⟨g, cap, w', hr, hk, hat, hlt, _, ho⟩ := run_app_v (t := 22) (x := .int .i64 x) Tryd.underlying22 hi0 hz0 hz1 hz2 (by omega) rfl h' rfl hB (by rw [valsI_len]; exact hn)
  rw [valsI_len] at hr
  refine ⟨g, cap, w', hr, hk, hat, hlt, ?_⟩
  have e : valsI xs ++ [.int .i64 x] = valsI (xs ++ [x]) := by simp [valsI]
  rw [e, valsI_len, List.length_append, List.length_singleton] at ho
  unfold Own
  rw [List.length_append, List.length_singleton]
  exact ho
end Go.Proofs.YtmlocepflcfkmaaDoor
