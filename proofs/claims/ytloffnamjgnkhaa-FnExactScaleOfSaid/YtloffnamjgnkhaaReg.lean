/-
  The law's region that compares its own copy of a scale with a new copy of the argument: the copy is as the argument was. Conditions: the slices read as lists that are not too long.
-/
import Derived.Test.YtloffnamjgnkhaaSameScl
import Derived.Test.YtloffnamjgnkhaaTyped
namespace Go.Proofs.Ytloffnamjgnkhaa
open Go.RowKit Mem Flo

theorem OwnScale.kp {B : Nat} {bs rs : List Int} {v : Value} {w w' : World} (h : OwnScale B bs rs v w) (hk : Kp [] w w') : OwnScale B bs rs v w' := by
  obtain ⟨g1, g2, e, h1, h2, r1, r2⟩ := h
  exact ⟨g1, g2, e, h1, h2, r1.kp hk, r2.kp hk⟩
theorem OwnScale.mono {B B' : Nat} {bs rs : List Int} {v : Value} {w : World} (h : OwnScale B bs rs v w) (hb : B' ≤ B) : OwnScale B' bs rs v w := by
  obtain ⟨g1, g2, e, h1, h2, r1, r2⟩ := h
  exact ⟨g1, g2, e, by omega, h2, r1, r2⟩

/-- The operations: load the copy, load the argument, copy it, compare, negate. -/
abbrev eqOps (sx sa d : Nat) (pos : String) : List Oper :=
  [{ dst := some d, op := Op.load 27 (Operand.tmp sx), type := 27, pos := pos, after := #[], guard := none },
   { dst := some (d + 1), op := Op.load 24 (Operand.tmp sa), type := 24, pos := pos, after := #[], guard := none },
   { dst := some (d + 2), op := Op.call { callee := Callee.value (Operand.func 20), args := #[Operand.tmp (d + 1)], argTypes := #[24] }, type := 27, pos := pos, after := #[{ on := 1, ground := Ground.data }], guard := none },
   { dst := some (d + 3), op := Op.call { callee := Callee.value (Operand.func 22), args := #[Operand.tmp d, Operand.tmp (d + 2)], argTypes := #[27, 27] }, type := 4, pos := pos, after := #[{ on := 0, ground := Ground.data }, { on := 2, ground := Ground.data }, { on := 2, ground := Ground.chain }], guard := none },
   { dst := some (d + 4), op := Op.unOp UnOp.not 4 (Operand.tmp (d + 3)), type := 4, pos := pos, after := #[{ on := 3, ground := Ground.data }], guard := none }]

/-- What may lie in the slots. -/
def eqT (sx sa d px pa : Nat) (X AS : Value) (B : Nat) (bs rs : List Int) (s : Nat) (v : Value) (w : World) : Prop :=
  if s = d then v = X else if s = d + 1 then v = AS else if s = d + 2 then OwnScale B bs rs v w else if s = d + 3 then v = .bool true else if s = d + 4 then v = .bool false
  else if s = sx then v = .pointer (some ⟨px, 0, none⟩) else if s = sa then v = .pointer (some ⟨pa, 0, none⟩) else True

theorem eqT_kp {sx sa d px pa : Nat} {X AS : Value} {B : Nat} {bs rs : List Int} (s : Nat) (v : Value) (w1 w2 : World) (hk : Kp [] w1 w2) (h : eqT sx sa d px pa X AS B bs rs s v w1) : eqT sx sa d px pa X AS B bs rs s v w2 := by
  unfold eqT at *
  repeat' split
  all_goals simp_all
  exact h.kp hk

theorem eqS_refl (bs rs : List Int) : eqS bs rs bs rs = true := by simp [eqS, eqL]

theorem pure_step {P : Program} {R : World → World → Prop} {w : World} {S : Value → World → Prop} {a : Act} {o : Oper} {ops : Array Oper} {v : Value} (hrf : ∀ w, R w w) (hg : o.guard = none)
    (hr : (execOp a.eval o).run P w = .ok (.value v) w) (hS : S v w) : (Region.wanted o (yielded ops a.tmps) = true → typedUpon P R w S ((execOp a.eval o).run P w)) ∧ (Region.wanted o (yielded ops a.tmps) = false → S undef w) :=
  ⟨fun _ => by rw [hr]; exact ⟨hrf _, hS⟩, fun h => by simp [Region.wanted, hg] at h⟩
theorem call_step {P : Program} {R : World → World → Prop} {w : World} {S : Value → World → Prop} {a : Act} {o : Oper} {ops : Array Oper} {f : FuncId} {args : Array Value} (hg : o.guard = none)
    (hr : (execOp a.eval o).run P w = .ok (.enter f args) w) (hc : Calls P f args w (fun e w'' => ∃ v, e = .returned v ∧ R w w'' ∧ S v w'')) : (Region.wanted o (yielded ops a.tmps) = true → typedUpon P R w S ((execOp a.eval o).run P w)) ∧ (Region.wanted o (yielded ops a.tmps) = false → S undef w) :=
  ⟨fun _ => by rw [hr]; exact hc, fun h => by simp [Region.wanted, hg] at h⟩

set_option maxHeartbeats 1000000 in
theorem eq_region {id n sx sa d px pa : Nat} {pos : String} {a0 : Act} {w : World} {Q : Exit → Act → World → Prop}
    (hok : formOk n (eqOps sx sa d pos).toArray = true) (hn : a0.tmps.size = n) (hs : sx < d ∧ sa < d ∧ sx ≠ sa)
    (hx : a0.tmps.getD sx undef = .pointer (some ⟨px, 0, none⟩)) (ha : a0.tmps.getD sa undef = .pointer (some ⟨pa, 0, none⟩))
    {g1 g2 : Nat} {bs rs : List Int} {A : Option Addr} {c : Nat} {B : Option Addr} {e : Nat}
    (bx : px < w.heap.size) (ba : pa < w.heap.size)
    (x0 : w.cell? ⟨px, 0, none⟩ = some (.slice (some ⟨g1, 0, none⟩) bs.length bs.length)) (x1 : w.cell? ⟨px, 1, none⟩ = some (.slice (some ⟨g2, 0, none⟩) rs.length rs.length))
    (c0 : w.cell? ⟨pa, 0, none⟩ = some (.slice A bs.length c)) (c1 : w.cell? ⟨pa, 1, none⟩ = some (.slice B rs.length e))
    (h1 : Row w g1 2 (valsI bs)) (h2 : Row w g2 2 (valsI rs)) (h3 : Sl w A bs.length (valsI bs)) (h4 : Sl w B rs.length (valsI rs)) (l1 : bs.length ≤ 1048576) (l2 : rs.length ≤ 1048576)
    (hQ : ∀ v w', Kp [] w w' → Q .normal (((((a0.put (some d) (.agg #[.slice (some ⟨g1, 0, none⟩) bs.length bs.length, .slice (some ⟨g2, 0, none⟩) rs.length rs.length])).put (some (d + 1)) (.agg #[.slice A bs.length c, .slice B rs.length e])).put (some (d + 2)) v).put (some (d + 3)) (.bool true)).put (some (d + 4)) (.bool false)) w') :
    (Code.region id (eqOps sx sa d pos).toArray true).wp Try.prog Q a0 w := by
  obtain ⟨s1, s2, s3⟩ := hs
  generalize hX : Value.agg #[.slice (some ⟨g1, 0, none⟩) bs.length bs.length, .slice (some ⟨g2, 0, none⟩) rs.length rs.length] = X at hQ
  generalize hAS : Value.agg #[.slice A bs.length c, .slice B rs.length e] = AS at hQ
  have tx : ∀ v w, eqT sx sa d px pa X AS 0 bs rs sx v w ↔ v = .pointer (some ⟨px, 0, none⟩) := fun v w => by
    unfold eqT; rw [if_neg (by omega), if_neg (by omega), if_neg (by omega), if_neg (by omega), if_neg (by omega), if_pos rfl]
  have ta : ∀ v w, eqT sx sa d px pa X AS 0 bs rs sa v w ↔ v = .pointer (some ⟨pa, 0, none⟩) := fun v w => by
    unfold eqT; rw [if_neg (by omega), if_neg (by omega), if_neg (by omega), if_neg (by omega), if_neg (by omega), if_neg (by omega), if_pos rfl]
  have t0 : ∀ v w, eqT sx sa d px pa X AS 0 bs rs d v w ↔ v = X := fun v w => by unfold eqT; rw [if_pos rfl]
  have t1 : ∀ v w, eqT sx sa d px pa X AS 0 bs rs (d + 1) v w ↔ v = AS := fun v w => by unfold eqT; rw [if_neg (by omega), if_pos rfl]
  have t2 : ∀ v w, eqT sx sa d px pa X AS 0 bs rs (d + 2) v w ↔ OwnScale 0 bs rs v w := fun v w => by unfold eqT; rw [if_neg (by omega), if_neg (by omega), if_pos rfl]
  have t3 : ∀ v w, eqT sx sa d px pa X AS 0 bs rs (d + 3) v w ↔ v = .bool true := fun v w => by unfold eqT; rw [if_neg (by omega), if_neg (by omega), if_neg (by omega), if_pos rfl]
  have t4 : ∀ v w, eqT sx sa d px pa X AS 0 bs rs (d + 4) v w ↔ v = .bool false := fun v w => by unfold eqT; rw [if_neg (by omega), if_neg (by omega), if_neg (by omega), if_neg (by omega), if_pos rfl]
  refine wp_region_typed_lit (by kernel_rfl) hok hn (Kp []) (eqT sx sa d px pa X AS 0 bs rs) Kp.refl (fun _ _ _ => Kp.tr) (fun w => (Kp.refl w).drew) eqT_kp ?_ ?_ ?_
  · refine ⟨⟨.inr ((tx _ _).2 hx), trivial⟩, ⟨.inr ((ta _ _).2 ha), trivial⟩, ⟨.inl ?_, trivial⟩, ⟨.inl ?_, .inl ?_, trivial⟩, ⟨.inl ?_, trivial⟩, trivial⟩
    all_goals simp [isDst]
  · refine ⟨fun a w' hk hl => ?_, fun a w' hk hl => ?_, fun a w' hk hl => ?_, fun a w' hk hl => ?_, fun a w' hk hl => ?_, trivial⟩
    · have e1 : a.eval (.tmp sx) = .pointer (some ⟨px, 0, none⟩) := (tx _ _).1 hl.1
      have y0 : w'.cell? ⟨px, 0, none⟩ = some (.slice (some ⟨g1, 0, none⟩) bs.length bs.length) := (hk.cell (p := ⟨px, 0, none⟩) bx (by simp)).trans x0
      have y1 : w'.cell? ⟨px, 1, none⟩ = some (.slice (some ⟨g2, 0, none⟩) rs.length rs.length) := (hk.cell (p := ⟨px, 1, none⟩) bx (by simp)).trans x1
      refine pure_step Kp.refl rfl (v := X) ?_ ((t0 _ _).2 rfl)
      clear hl x0 x1 c0 c1 tx ta t0 t1 t2 t3 t4 hAS hx ha h1 h2 h3 h4
      subst hX
      simp only [execOp, e1]
      go_simp
    · have e1 : a.eval (.tmp sa) = .pointer (some ⟨pa, 0, none⟩) := (ta _ _).1 hl.1
      have y0 : w'.cell? ⟨pa, 0, none⟩ = some (.slice A bs.length c) := (hk.cell (p := ⟨pa, 0, none⟩) ba (by simp)).trans c0
      have y1 : w'.cell? ⟨pa, 1, none⟩ = some (.slice B rs.length e) := (hk.cell (p := ⟨pa, 1, none⟩) ba (by simp)).trans c1
      refine pure_step Kp.refl rfl (v := AS) ?_ ((t1 _ _).2 rfl)
      clear hl x0 x1 c0 c1 tx ta t0 t1 t2 t3 t4 hX hx ha h1 h2 h3 h4
      subst hAS
      simp only [execOp, e1]
      go_simp
    · have e1 : a.eval (.tmp (d + 1)) = AS := (t1 _ _).1 hl.1
      refine call_step rfl (f := 20) (args := #[AS]) ?_ ?_
      · clear hl x0 x1 c0 c1 tx ta t0 t1 t2 t3 t4 hX hx ha h1 h2 h3 h4 hAS
        simp only [execOp]
        go_simp
        simpa [Act.eval] using e1
      · subst hAS
        refine (tos_any A _ c bs B _ e rs w' (h3.kp hk) (h4.kp hk) l1 l2).mono ?_
        rintro e w2 ⟨v, rfl, hk2, ho⟩
        exact ⟨v, rfl, hk2, (t2 _ _).2 (ho.mono (Nat.zero_le _))⟩
    · have e1 : a.eval (.tmp d) = X := (t0 _ _).1 hl.1
      have ho : OwnScale 0 bs rs (a.tmps.getD (d + 2) undef) w' := (t2 _ _).1 hl.2.1
      obtain ⟨q1, q2, e2, _, _, r1, r2⟩ := ho
      have e2' : a.eval (.tmp (d + 2)) = _ := e2
      refine call_step rfl (f := 22) (args := #[X, .agg #[.slice (some ⟨q1, 0, none⟩) bs.length bs.length, .slice (some ⟨q2, 0, none⟩) rs.length rs.length]]) ?_ ?_
      · clear hl x0 x1 c0 c1 tx ta t0 t1 t2 t3 t4 hX hx ha h1 h2 h3 h4 hAS e2 r1 r2
        simp only [execOp]
        go_simp
        exact ⟨by simpa [Act.eval] using e1, by simpa [Act.eval] using e2'⟩
      · subst hX
        refine (same_law _ _ _ bs _ _ _ rs _ _ _ bs _ _ _ rs w' ((h1.kp hk).sl (valsI_len _)) ((h2.kp hk).sl (valsI_len _)) (r1.sl (valsI_len _)) (r2.sl (valsI_len _)) l1 l2 l1 l2).mono ?_
        rintro e w2 ⟨rfl, hk2⟩
        exact ⟨_, rfl, hk2, (t3 _ _).2 (by rw [eqS_refl])⟩
    · have e1 : a.eval (.tmp (d + 3)) = .bool true := (t3 _ _).1 hl.1
      refine pure_step Kp.refl rfl (v := .bool false) ?_ ((t4 _ _).2 rfl)
      simp only [execOp, e1]
      rfl
  · intro f w' hk hv
    obtain ⟨v0, v1, v2, v3, v4, _⟩ := hv
    have v0 : f d = X := (t0 _ _).1 v0
    have v1 : f (d + 1) = AS := (t1 _ _).1 v1
    have v3 : f (d + 3) = .bool true := (t3 _ _).1 v3
    have v4 : f (d + 4) = .bool false := (t4 _ _).1 v4
    have := hQ (f (d + 2)) w' hk
    rw [← v0, ← v1, ← v3, ← v4] at this
    exact this
end Go.Proofs.Ytloffnamjgnkhaa
