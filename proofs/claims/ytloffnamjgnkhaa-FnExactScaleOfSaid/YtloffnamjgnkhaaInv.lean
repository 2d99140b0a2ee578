/-
  A region that draws its order, by an invariant: of each slot it is said what value lies in it once its operation is done; of memory, what holds by which operations are done. If each operation, whenever it comes up, keeps to that, then so it is behind the region, in whatever order. Conditions: those that each theorem names.
-/
import Derived.Test.YtloffnamjgnkhaaTyped
namespace Go.Proofs.Ytloffnamjgnkhaa
set_option linter.unusedVariables false
set_option linter.unusedSimpArgs false
namespace Inv
open Go Flo

def upd (done : Nat → Bool) (k : Nat) : Nat → Bool := fun j => if j = k then true else done j
def updF (f : Nat → Value) (d : Option Nat) (v : Value) : Nat → Value := match d with
  | some d => fun s => if s = d then v else f s
  | none => f

/-- What an operation's run may come to. -/
def upon (P : Program) (S : Value → World → Prop) : Result Next → Prop
  | .ok (.value u) w' => S u w'
  | .ok .skip w' => S undef w'
  | .ok (.enter f args) w' => Calls P f args w' (fun e w'' => ∃ v, e = .returned v ∧ S v w'')
  | _ => False

/-- Each operation waits for earlier ones alone, is not guarded, writes a slot of its own if any, and waits for those whose slots it reads. -/
def formOk (n : Nat) (ops : Array Oper) : Bool :=
  (List.range ops.size).all fun i =>
    match ops[i]? with
    | none => false
    | some o =>
      o.guard.isNone &&
      (match o.dst with
       | none => true
       | some d => decide (d < n) && (List.range ops.size).all fun j => j == i || (ops[j]?).bind (·.dst) != some d) &&
      o.after.toList.all (fun e => decide (e.on < i)) &&
      (o.looksAt ops).all fun t => (List.range ops.size).all fun j => (ops[j]?).bind (·.dst) != some t || o.after.toList.any fun e => Region.binds .any e && e.on == j

structure FormAt (n : Nat) (ops : Array Oper) (i : Nat) (o : Oper) : Prop where
  guard : o.guard = none
  dst : ∀ d, o.dst = some d → d < n ∧ ∀ j o', ops[j]? = some o' → o'.dst = some d → j = i
  before : ∀ e ∈ o.after, e.on < i
  waits : ∀ t ∈ o.looksAt ops, ∀ j o', ops[j]? = some o' → o'.dst = some t → ∃ e ∈ o.after, Region.binds .any e = true ∧ e.on = j

theorem formOk_spec {n : Nat} {ops : Array Oper} {i : Nat} {o : Oper} (h : formOk n ops = true) (ho : ops[i]? = some o) : FormAt n ops i o := by
  have hi : i < ops.size := (Array.getElem?_eq_some_iff.1 ho).1
  unfold formOk at h
  rw [List.all_eq_true] at h
  have h1 := h i (List.mem_range.2 hi)
  simp only [ho, Bool.and_eq_true] at h1
  obtain ⟨⟨⟨hg, hd⟩, hb⟩, hw⟩ := h1
  refine ⟨by simpa using hg, ?_, ?_, ?_⟩
  · intro d hdd
    rw [hdd] at hd
    simp only [Bool.and_eq_true, decide_eq_true_eq, List.all_eq_true, List.mem_range, Bool.or_eq_true, beq_iff_eq, bne_iff_ne] at hd
    refine ⟨hd.1, fun j o' hj hd' => ?_⟩
    rcases hd.2 j (Array.getElem?_eq_some_iff.1 hj).1 with h2 | h2
    · exact h2
    · rw [hj] at h2
      exact absurd hd' h2
  · intro e he
    rw [List.all_eq_true] at hb
    simpa using hb e (by simpa using he)
  · intro t ht j o' hj hd'
    rw [List.all_eq_true] at hw
    have h2 := hw t ht
    rw [List.all_eq_true] at h2
    have h3 := h2 j (List.mem_range.2 (Array.getElem?_eq_some_iff.1 hj).1)
    simp only [hj, Option.bind_some, hd', bne_self_eq_false, Bool.false_or, List.any_eq_true, Bool.and_eq_true, beq_iff_eq] at h3
    obtain ⟨e, he, hb, hon⟩ := h3
    exact ⟨e, by simpa using he, hb, hon⟩

section
variable {P : Program} {ops : Array Oper} {T : Nat → Value → Prop} {M : (Nat → Bool) → (Nat → Value) → World → Prop}

/-- Whatever is done, what it waits for is done. -/
def Closed (ops : Array Oper) (done : Nat → Bool) : Prop := ∀ i o, ops[i]? = some o → done i = true → ∀ e ∈ o.after, Region.binds .any e = true → done e.on = true

structure Fit (ops : Array Oper) (T : Nat → Value → Prop) (a0 : Act) (listed : Array Bool) (a : Act) : Prop where
  defers : a.defers = a0.defers
  size : a.tmps.size = a0.tmps.size
  out : ∀ s, isDst ops s = false → a.tmps.getD s undef = a0.tmps.getD s undef
  val : ∀ j o d, listed.getD j false = true → ops[j]? = some o → o.dst = some d → T d (a.tmps.getD d undef)
  closed : Closed ops (fun j => listed.getD j false)

/-- What may lie in slot s when it is read. -/
def Kn (ops : Array Oper) (T : Nat → Value → Prop) (a0 : Act) (s : Nat) (u : Value) : Prop := if isDst ops s then T s u else u = a0.tmps.getD s undef

theorem all_listed {n : Nat} {listed : Array Bool} (hok : formOk n ops = true) (hr : Region.ready .any ops listed = []) : ∀ (j : Nat), j < ops.size → listed.getD j true = true := by
  intro j
  induction j using Nat.strongRecOn with
  | _ j ih =>
    intro hj
    cases h : listed.getD j true
    · exfalso
      have ho : ops[j]? = some ops[j] := Array.getElem?_eq_getElem hj
      have hf := formOk_spec hok ho
      have : j ∈ Region.ready .any ops listed := by
        rw [mem_ready]
        refine ⟨h, _, ho, fun e he _ => ?_⟩
        have hlt := hf.before e he
        have h1 := ih e.on hlt (by omega)
        rcases Nat.lt_or_ge e.on listed.size with h' | h'
        · simp [h'] at h1 ⊢; exact h1
        · have hj' : listed.getD j true = true := by
            have : listed.size ≤ j := by omega
            simp [Array.getElem?_eq_none this]
          rw [h] at hj'; cases hj'
      rw [hr] at this
      cases this
    · rfl

theorem set_done {listed : Array Bool} {i : Nat} (hi : i < listed.size) : (fun j => (listed.setIfInBounds i true).getD j false) = upd (fun j => listed.getD j false) i := by
  funext j
  unfold upd
  by_cases h : j = i
  · subst h; simp [hi]
  · rw [if_neg h]
    simp [Array.getElem?_setIfInBounds_ne (fun e => h e.symm)]

theorem put_f {a : Act} {d : Option Nat} {v : Value} (hd : ∀ s, d = some s → s < a.tmps.size) : (fun s => (a.put d v).tmps.getD s undef) = updF (fun s => a.tmps.getD s undef) d v := by
  cases d with
  | none => rfl
  | some d =>
    funext s
    unfold updF
    simp only
    by_cases h : s = d
    · subst h; simp [Act.put, hd s rfl]
    · rw [if_neg h]; simp [Act.put, Array.getElem?_setIfInBounds_ne (fun e => h e.symm)]

/-- What is asked of operation i. -/
def StepAt (P : Program) (ops : Array Oper) (T : Nat → Value → Prop) (M : (Nat → Bool) → (Nat → Value) → World → Prop) (a0 : Act) (i : Nat) (o : Oper) : Prop :=
  ∀ (a : Act) (w : World) (done : Nat → Bool), Closed ops done → done i = false → (∀ e ∈ o.after, Region.binds .any e = true → done e.on = true) → (∀ t ∈ o.looksAt ops, Kn ops T a0 t (a.tmps.getD t undef)) → M done (fun s => a.tmps.getD s undef) w →
    upon P (fun v w' => (∀ d, o.dst = some d → T d v) ∧ M (upd done i) (updF (fun s => a.tmps.getD s undef) o.dst v) w') ((execOp a.eval o).run P w)

theorem wpAny_inv {n : Nat} {a0 : Act} {Q : Exit → Act → World → Prop} (hok : formOk n ops = true) (hn : a0.tmps.size = n)
    (hstep : ∀ (i : Nat) (o : Oper), ops[i]? = some o → StepAt P ops T M a0 i o)
    (hQ : ∀ (a : Act) (w : World) (done : Nat → Bool), (∀ j, j < ops.size → done j = true) → M done (fun s => a.tmps.getD s undef) w → a.defers = a0.defers → a.tmps.size = n → (∀ s, Kn ops T a0 s (a.tmps.getD s undef)) → Q .normal a w) :
    ∀ (fuel : Nat) (listed : Array Bool) (a : Act) (w : World), listed.size = ops.size → left ops listed ≤ fuel → Fit ops T a0 listed a → M (fun j => listed.getD j false) (fun s => a.tmps.getD s undef) w → wpAny P .any ops Q fuel listed a w := by
  have fin : ∀ (listed : Array Bool) (a : Act) (w : World), listed.size = ops.size → Region.ready .any ops listed = [] → Fit ops T a0 listed a → M (fun j => listed.getD j false) (fun s => a.tmps.getD s undef) w → Q .normal a w := by
    intro listed a w hsz hr hf hM
    have hall : ∀ j, j < ops.size → listed.getD j false = true := fun j hj => by
      have h1 := all_listed hok hr j hj
      have hjl : j < listed.size := by omega
      simp [hjl] at h1 ⊢
      exact h1
    refine hQ a w _ hall hM hf.defers (hf.size.trans hn) fun s => ?_
    unfold Kn
    cases hd : isDst ops s
    · rw [if_neg (by decide)]; exact hf.out s hd
    · rw [if_pos rfl]
      obtain ⟨j, o, ho, hdo⟩ := of_isDst hd
      exact hf.val j o s (hall j (Array.getElem?_eq_some_iff.1 ho).1) ho hdo
  intro fuel
  induction fuel with
  | zero =>
    intro listed a w hsz hl hf hM
    have hr : Region.ready .any ops listed = [] := by
      rw [List.eq_nil_iff_forall_not_mem]
      intro j hj
      obtain ⟨h0, o, ho, _⟩ := mem_ready.1 hj
      have := left_set hsz (Array.getElem?_eq_some_iff.1 ho).1 h0
      omega
    exact ⟨hr, fin listed a w hsz hr hf hM⟩
  | succ fuel ih =>
    intro listed a w hsz hl hf hM
    refine ⟨fun hr => fin listed a w hsz hr hf hM, fun i hi => ?_⟩
    obtain ⟨h0, o, ho, hall⟩ := mem_ready.1 hi
    have hio : i < ops.size := (Array.getElem?_eq_some_iff.1 ho).1
    have fm := formOk_spec hok ho
    have hkn : ∀ t ∈ o.looksAt ops, Kn ops T a0 t (a.tmps.getD t undef) := by
      intro t ht
      unfold Kn
      cases hdt : isDst ops t
      · rw [if_neg (by decide)]; exact hf.out t hdt
      · rw [if_pos rfl]
        obtain ⟨j, o', ho', hdo⟩ := of_isDst hdt
        obtain ⟨e, he, hb, hon⟩ := fm.waits t ht j o' ho' hdo
        have := hall e he hb
        rw [hon] at this
        exact hf.val j o' t this ho' hdo
    have hdf : listed.getD i false = false := by
      have hil : i < listed.size := by omega
      simp [hil] at h0 ⊢
      exact h0
    have hty := hstep i o ho a w _ hf.closed hdf hall hkn hM
    have next : ∀ (v : Value) (w' : World), ((∀ d, o.dst = some d → T d v) ∧ M (upd (fun j => listed.getD j false) i) (updF (fun s => a.tmps.getD s undef) o.dst v) w') → wpAny P .any ops Q fuel (listed.setIfInBounds i true) (a.put o.dst v) w' := by
      intro v w' ⟨hT, hM'⟩
      have hdlt : ∀ s, o.dst = some s → s < a.tmps.size := fun s hs => by rw [hf.size, hn]; exact (fm.dst s hs).1
      refine ih _ _ _ (by simp [hsz]) (by have := left_set hsz hio h0; omega) ?_ ?_
      · refine ⟨?_, ?_, fun s hs => ?_, fun j o' d' hj ho' hd' => ?_, ?_⟩
        · cases o.dst <;> exact hf.defers
        · cases hd : o.dst with
          | none => exact hf.size
          | some d => simp [Act.put, hf.size]
        · have e : (a.put o.dst v).tmps.getD s undef = updF (fun s => a.tmps.getD s undef) o.dst v s := congrFun (put_f (a := a) (d := o.dst) (v := v) hdlt) s
          rw [e, ← hf.out s hs]
          cases hd : o.dst with
          | none => rfl
          | some d =>
            have hne : ¬ s = d := fun h => by rw [h, isDst_of ho hd] at hs; cases hs
            show (if s = d then v else _) = _
            rw [if_neg hne]
        · have e : (a.put o.dst v).tmps.getD d' undef = updF (fun s => a.tmps.getD s undef) o.dst v d' := congrFun (put_f (a := a) (d := o.dst) (v := v) hdlt) d'
          rw [e]
          by_cases hdd : o.dst = some d'
          · rw [hdd]
            show T d' (if d' = d' then v else _)
            rw [if_pos rfl]
            exact hT d' hdd
          · have hji : i ≠ j := fun h => by
              subst h
              rw [ho] at ho'
              injection ho' with ho'
              subst ho'
              exact hdd hd'
            rw [getD_set_ne false hji] at hj
            have := hf.val j o' d' hj ho' hd'
            cases hd : o.dst with
            | none => exact this
            | some d =>
              show T d' (if d' = d then v else _)
              rw [if_neg (fun h => hdd (by rw [hd, h]))]
              exact this
        · rw [set_done (by omega)]
          intro j o' ho' hj e he hb
          unfold upd at hj ⊢
          by_cases hji : j = i
          · subst hji
            rw [ho] at ho'
            injection ho' with ho'
            subst ho'
            split
            · rfl
            · exact hall e he hb
          · rw [if_neg hji] at hj
            split
            · rfl
            · exact hf.closed j o' ho' hj e he hb
      · rw [set_done (by omega), put_f hdlt]
        exact hM'
    unfold wpOp
    rw [ho]
    simp only
    have hwd : Region.wanted o (yielded ops a.tmps) = true := by unfold Region.wanted; rw [fm.guard]
    rw [if_pos hwd]
    refine .inl ?_
    unfold Oper.wp
    generalize (execOp a.eval o).run P w = r at hty
    cases r with
    | ok x w' =>
      cases x <;> simp only [upon] at hty <;> simp only [Oper.upon]
      case value u => exact next _ _ hty
      case skip => exact next _ _ hty
      case enter f args => exact hty.mono fun e w'' ⟨v, he, hR⟩ => by subst he; exact next _ _ hR
    | halt x w' => simp only [upon] at hty

/-- What is asked of each operation of a region that is written out. -/
def steps (P : Program) (ops : Array Oper) (T : Nat → Value → Prop) (M : (Nat → Bool) → (Nat → Value) → World → Prop) (a0 : Act) : Nat → List Oper → Prop
  | _, [] => True
  | k, o :: l => StepAt P ops T M a0 k o ∧ steps P ops T M a0 (k + 1) l

theorem steps_at {a0 : Act} : ∀ {l : List Oper} {k : Nat}, steps P ops T M a0 k l → ∀ (i : Nat) (o : Oper), l[i]? = some o → StepAt P ops T M a0 (k + i) o := by
  intro l
  induction l with
  | nil => intro k _ i o h; cases h
  | cons o l ih =>
    intro k h i o' ho
    cases i with
    | zero => simp at ho; subst ho; exact h.1
    | succ i =>
      have := ih h.2 i o' (by simpa using ho)
      rw [show k + 1 + i = k + (i + 1) by omega] at this
      exact this

/-- THE REGION. -/
theorem wp_region_inv {id : Nat} {n : Nat} {a0 : Act} {w : World} {Q : Exit → Act → World → Prop} {l : List Oper} (hm : P.follows .mixedOrders = true) (hok : formOk n l.toArray = true) (hn : a0.tmps.size = n)
    (T : Nat → Value → Prop) (M : (Nat → Bool) → (Nat → Value) → World → Prop) (h0 : M (fun _ => false) (fun s => a0.tmps.getD s undef) w.drew)
    (hsteps : steps P l.toArray T M a0 0 l)
    (hQ : ∀ (f : Nat → Value) (w' : World) (done : Nat → Bool), (∀ j, j < l.length → done j = true) → M done f w' → (∀ o ∈ l, ∀ d, o.dst = some d → T d (f d)) → Q .normal (putAll f l a0) w') : (Code.region id l.toArray true).wp P Q a0 w := by
  refine wp_region_any hm (wpAny_inv (T := T) (M := M) hok hn (fun i o ho => ?_) (fun a w' done hd hM h1 h2 h3 => ?_) _ _ _ _ (by simp) ?_ ⟨rfl, rfl, fun _ _ => rfl, fun j o d hj ho _ => ?_, fun i o ho hd => ?_⟩ ?_)
  · have := steps_at hsteps i o (by simpa using ho)
    rwa [Nat.zero_add] at this
  · have hkn : ∀ o ∈ l, ∀ d, o.dst = some d → T d (a.tmps.getD d undef) := fun o ho d hd => by
      have := h3 d
      unfold Kn at this
      obtain ⟨i, hi, rfl⟩ := List.getElem_of_mem ho
      rwa [isDst_of (j := i) (o := l[i]) (by simp [hi]) hd, if_pos rfl] at this
    rw [putAll_eq h1 (h2.trans hn.symm) (fun s hs => by have := h3 s; unfold Kn at this; rwa [hs, if_neg (by decide)] at this)]
    exact hQ _ _ done (fun j hj => hd j (by simpa using hj)) hM hkn
  · unfold left
    refine Nat.le_trans (List.length_filter_le _ _) ?_
    simp
  · have : j < l.toArray.size := (Array.getElem?_eq_some_iff.1 ho).1
    have h2 : j < l.length := by simpa using this
    simp [h2] at hj
  · have : i < l.toArray.size := (Array.getElem?_eq_some_iff.1 ho).1
    have h2 : i < l.length := by simpa using this
    simp [h2] at hd
  · have e : (fun j => (Array.replicate l.toArray.size false).getD j false) = fun _ => false := by
      funext j
      by_cases h : j < l.toArray.size
      · have h2 : j < l.length := by simpa using h
        simp [h2]
      · have h2 : ¬ j < l.length := by simpa using h
        simp [h2]
    rw [e]
    exact h0
end
end Inv
end Go.Proofs.Ytloffnamjgnkhaa
