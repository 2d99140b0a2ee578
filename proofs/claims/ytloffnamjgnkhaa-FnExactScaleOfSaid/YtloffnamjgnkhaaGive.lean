/-
  A scale is handed back if it is a good one: the reference's and the program's function. A copy of a slice, and a slice mapped. Conditions: the slices read as lists that are not too long.
-/
import Derived.Test.YtloffnamjgnkhaaOwn
import Derived.Lib.SliceRun
namespace Go.Proofs.Ytloffnamjgnkhaa
open Go.RowKit Mem

/-- The value itself where P holds, else none. -/
def GPost (P : Prop) (v : Value) (w : World) (e : Ending) (w' : World) : Prop :=
  ∃ b : Bool, (b = true ↔ P) ∧ Kp [] w w' ∧ e = .returned (.tuple #[if b then v else .agg #[.slice none 0 0, .slice none 0 0], .bool b])

set_option maxHeartbeats 1000000 in
theorem give_spec (A : Option Addr) (n c : Nat) (bs : List Int) (B : Option Addr) (m d : Nat) (rs : List Int) (w : World) (h : Sl w A n (valsI bs)) (h2 : Sl w B m (valsI rs)) (hn : n ≤ 1048576) (hm : m ≤ 1048576) :
    Calls Try.prog 69 #[.agg #[.slice A n c, .slice B m d]] w (GPost (OkS bs rs) (.agg #[.slice A n c, .slice B m d]) w) := by
  have HA := Lib.hid h
  have HB := Lib.hid h2
  clear h h2
  have hF := (Fx.new w 27 (.slice A n c) (.slice B m d)).kp ((Kp.refl _).alloc (.cells #[.slice none 0 0, .slice none 0 0] 27))
  have hR : Fx ((w.alloc (.cells #[.slice A n c, .slice B m d] 27)).alloc (.cells #[.slice none 0 0, .slice none 0 0] 27)) (w.heap.size + 1) 27 (.slice none 0 0) (.slice none 0 0) := by simpa using Fx.new (w.alloc (.cells #[.slice A n c, .slice B m d] 27)) 27 (.slice none 0 0) (.slice none 0 0)
  have hk0 := ((Kp.refl w).alloc (.cells #[.slice A n c, .slice B m d] 27)).alloc (.cells #[.slice none 0 0, .slice none 0 0] 27)
  have F0 := Lib.hid hF
  have R0 := Lib.hid hR
  have K0 := Lib.hid hk0
  clear hF hR hk0
  go_enter Try.func69, Try.ntmps69
  go_wp2_with fail
  refine (is_tell A n c bs B m d rs w.heap.size _ F0.out.c0 F0.out.c1 (by exact HA.out.kp K0.out) (by exact HB.out.kp K0.out) hn hm).mono ?_
  rintro e w1 ⟨b, rfl, hb, hk1⟩
  have K1 := Lib.hid (K0.out.tr hk1)
  have F1 := Lib.hid (F0.out.kp hk1)
  have R1 := Lib.hid (R0.out.kp hk1)
  have HBB := Lib.hid hb
  clear hk1 F0 R0 K0 hb
  have c0 := F1.out.c0
  have c1 := F1.out.c1
  have c2 := R1.out.c0
  have c3 := R1.out.c1
  have f0 := R1.out.f 0
  have f1 := R1.out.f 1
  cases b
  · go_wp2_with fail
    refine bodyPost_ret (v := .tuple #[.agg #[.slice none 0 0, .slice none 0 0], .bool false]) ?_ rfl ⟨false, HBB.out, (K1.out.setNew _ (by omega) _ _).setNew _ (by omega) _ _, rfl⟩
    simp [results, Try.results69, go_sem, *]
  · go_wp2_with fail
    refine bodyPost_ret (v := .tuple #[.agg #[.slice A n c, .slice B m d], .bool true]) ?_ rfl ⟨true, by have := HBB.out; simpa using this, (K1.out.setNew _ (by omega) _ _).setNew _ (by omega) _ _, rfl⟩
    simp [results, Try.results69, go_sem, *]

set_option maxHeartbeats 1000000 in
theorem scale_impl (A : Option Addr) (n c : Nat) (bs : List Int) (B : Option Addr) (m d : Nat) (rs : List Int) (w : World) (h : Sl w A n (valsI bs)) (h2 : Sl w B m (valsI rs)) (hn : n ≤ 1048576) (hm : m ≤ 1048576) :
    Calls Try.prog 71 #[.agg #[.slice A n c, .slice B m d]] w (GPost (OkS bs rs) (.agg #[.slice A n c, .slice B m d]) w) := by
  have HA := Lib.hid h
  have HB := Lib.hid h2
  clear h h2
  have hF := (Fx.new w 27 (.slice A n c) (.slice B m d)).kp ((Kp.refl _).alloc (.cells #[.slice none 0 0, .slice none 0 0] 27))
  have hR : Fx ((w.alloc (.cells #[.slice A n c, .slice B m d] 27)).alloc (.cells #[.slice none 0 0, .slice none 0 0] 27)) (w.heap.size + 1) 27 (.slice none 0 0) (.slice none 0 0) := by simpa using Fx.new (w.alloc (.cells #[.slice A n c, .slice B m d] 27)) 27 (.slice none 0 0) (.slice none 0 0)
  have hk0 := ((Kp.refl w).alloc (.cells #[.slice A n c, .slice B m d] 27)).alloc (.cells #[.slice none 0 0, .slice none 0 0] 27)
  have F0 := Lib.hid hF
  have R0 := Lib.hid hR
  have K0 := Lib.hid hk0
  clear hF hR hk0
  go_enter Try.func71, Try.ntmps71
  go_wp2_with fail
  refine (valid_impl A n c bs B m d rs _ (by exact HA.out.kp K0.out) (by exact HB.out.kp K0.out) hn hm).mono ?_
  rintro e w1 ⟨b, rfl, hb, hk1⟩
  have K1 := Lib.hid (K0.out.tr hk1)
  have F1 := Lib.hid (F0.out.kp hk1)
  have R1 := Lib.hid (R0.out.kp hk1)
  have HBB := Lib.hid hb
  clear hk1 F0 R0 K0 hb
  have c0 := F1.out.c0
  have c1 := F1.out.c1
  have c2 := R1.out.c0
  have c3 := R1.out.c1
  have f0 := R1.out.f 0
  have f1 := R1.out.f 1
  cases b
  · go_wp2_with fail
    refine bodyPost_ret (v := .tuple #[.agg #[.slice none 0 0, .slice none 0 0], .bool false]) ?_ rfl ⟨false, HBB.out, (K1.out.setNew _ (by omega) _ _).setNew _ (by omega) _ _, rfl⟩
    simp [results, Try.results71, go_sem, *]
  · go_wp2_with fail
    refine bodyPost_ret (v := .tuple #[.agg #[.slice A n c, .slice B m d], .bool true]) ?_ rfl ⟨true, by have := HBB.out; simpa using this, (K1.out.setNew _ (by omega) _ _).setNew _ (by omega) _ _, rfl⟩
    simp [results, Try.results71, go_sem, *]

theorem wpList_appE {P : Program} {ops : Array Oper} {rest : List Oper} {o : Oper} {a : Act} {w : World} {Q : Exit → Act → World → Prop} (hgd : o.guard = none) (s x : Operand) (t : TypeId)
    (ho : o.op = .call { callee := .builtin .append, args := #[s, x], argTypes := #[t, t] }) {v : Value} {w' : World} (hr : (Builtin.append_ #[t, t] o.type #[a.eval s, a.eval x]).run P w = .ok v w')
    (h : wpList P ops Q rest (a.put o.dst v) w') : wpList P ops Q (o :: rest) a w := by
  refine wpList_plain hgd fun K hK => ?_
  unfold Oper.wp execOp
  simp only [ho, resolve, invoke, builtin, Sem.run_bind, Sem.run_pure, Result.andThen_ok, List.map_toArray, List.map_cons, List.map_nil, hr]
  exact hK _ _ h

set_option maxHeartbeats 1000000 in
theorem clone_any (A : Option Addr) (n c : Nat) (zs : List Int) (w : World) (h : Sl w A n (valsI zs)) (h0 : 0 < n) (hn : n ≤ 1048576) :
    Calls Try.prog 70 #[.slice A n c] w fun e w' => ∃ g cap, e = .returned (.slice (some ⟨g, 0, none⟩) n cap) ∧ Kp [] w w' ∧ Own w.heap.size w' (.slice (some ⟨g, 0, none⟩) n cap) zs := by
  have HO := own_empty (H := w.heap.size) w (Nat.le_refl _)
  obtain ⟨g, cap, w', hr, hk, hat, ho⟩ := run_cp (c := c) HO (by simp) (h.alloc (.cells #[] 2)) h0 hn
  obtain ⟨b, off, rfl, hb, _⟩ := h.2 h0
  have HK := Lib.hid (((Kp.refl w).alloc (.cells #[] 2)).later hk (by simp [Value.ownBlock]))
  have HW := Lib.hid ho
  have q22 : ∀ (w : World) (a : Option Addr) (n c n' c' : Nat), (binOp .eql 22 (.slice a n c) (.slice none n' c')).run Try.prog w = .ok (.bool a.isNone) w := fun w a n c n' c' => Lib.run_eql_slice_nil w _ _ a n c n' c' Try.underlying22
  clear hk hat ho HO h hb
  go_enter Try.func70, Try.ntmps70
  go_wp2_with (at_builtin; refine wpList_appE (by rfl) _ _ 22 (by rfl) (by exact hr) ?_)
  go_wp2
  go_ret
  exact ⟨_, _, rfl, HK.out, HW.out⟩
end Go.Proofs.Ytloffnamjgnkhaa
