/-
  The like of 'YtpebdcimbdbbmaaTyped' for a region that writes a slot which it has read before: the writer waits for the reader. Conditions: those that each theorem names.
-/
import Derived.Test.YtpebdcimbdbbmaaTyped
namespace Go.Proofs.Ytpebdcimbdbbmaa
namespace Flo
open Go

section
variable {P : Program} {ops : Array Oper} {R : World → World → Prop} {T : Nat → Value → World → Prop}

/-- Does o wait for one that writes slot t? -/
def seen (ops : Array Oper) (o : Oper) (t : Nat) : Bool := o.after.toList.any fun e => Region.binds .any e && (ops[e.on]?).bind (·.dst) == some t

/-- What o finds in slot t. -/
def KnB (ops : Array Oper) (T : Nat → Value → World → Prop) (a0 : Act) (o : Oper) (t : Nat) (u : Value) (w : World) : Prop :=
  match seen ops o t with
  | true => T t u w
  | false => u = a0.tmps.getD t undef

def waitsFor (o : Oper) (j : Nat) : Bool := o.after.toList.any fun e => Region.binds .any e && e.on == j

def formOkB (n : Nat) (ops : Array Oper) : Bool :=
  (List.range ops.size).all fun i =>
    match ops[i]? with
    | none => false
    | some o =>
      (match o.dst with
       | none => false
       | some d => decide (d < n) && (List.range ops.size).all fun j => j == i || (ops[j]?).bind (·.dst) != some d) &&
      o.after.toList.all (fun e => decide (e.on < i)) &&
      (o.looksAt ops).all fun t => (List.range ops.size).all fun j => (ops[j]?).bind (·.dst) != some t || waitsFor o j || (match ops[j]? with | some o' => waitsFor o' i | none => false)

structure FormAtB (n : Nat) (ops : Array Oper) (i : Nat) (o : Oper) : Prop where
  dst : ∃ d, o.dst = some d ∧ d < n ∧ ∀ j o', ops[j]? = some o' → o'.dst = some d → j = i
  before : ∀ e ∈ o.after, e.on < i
  waits : ∀ t ∈ o.looksAt ops, ∀ j o', ops[j]? = some o' → o'.dst = some t → waitsFor o j = true ∨ waitsFor o' i = true

theorem formOkB_spec {n : Nat} {i : Nat} {o : Oper} (h : formOkB n ops = true) (ho : ops[i]? = some o) : FormAtB n ops i o := by
  have hi : i < ops.size := (Array.getElem?_eq_some_iff.1 ho).1
  unfold formOkB at h
  rw [List.all_eq_true] at h
  have h1 := h i (List.mem_range.2 hi)
  simp only [ho, Bool.and_eq_true] at h1
  obtain ⟨⟨hd, hb⟩, hw⟩ := h1
  refine ⟨?_, ?_, ?_⟩
  · cases hdd : o.dst with
    | none => rw [hdd] at hd; cases hd
    | some d =>
      rw [hdd] at hd
      simp only [Bool.and_eq_true, decide_eq_true_eq, List.all_eq_true, List.mem_range, Bool.or_eq_true, beq_iff_eq, bne_iff_ne] at hd
      refine ⟨d, rfl, hd.1, fun j o' hj hd' => ?_⟩
      rcases hd.2 j (Array.getElem?_eq_some_iff.1 hj).1 with h2 | h2
      · exact h2
      · rw [hj] at h2
        exact absurd hd' h2
  · intro e he
    rw [List.all_eq_true] at hb
    simpa using hb e (by simpa using he)
  · intro t ht j o' hj hd'
    rw [List.all_eq_true] at hw
    have h2 := hw t ht
    rw [List.all_eq_true] at h2
    have h3 := h2 j (List.mem_range.2 (Array.getElem?_eq_some_iff.1 hj).1)
    simp only [hj, Option.bind_some, hd', bne_self_eq_false, Bool.false_or, Bool.or_eq_true] at h3
    exact h3

theorem waitsFor_iff {o : Oper} {j : Nat} (h : waitsFor o j = true) : ∃ e ∈ o.after, Region.binds .any e = true ∧ e.on = j := by
  unfold waitsFor at h
  rw [List.any_eq_true] at h
  obtain ⟨e, he, hh⟩ := h
  rw [Bool.and_eq_true, beq_iff_eq] at hh
  exact ⟨e, by simpa using he, hh⟩
theorem seen_iff {o : Oper} {t : Nat} (h : seen ops o t = true) : ∃ e ∈ o.after, Region.binds .any e = true ∧ ∃ o', ops[e.on]? = some o' ∧ o'.dst = some t := by
  unfold seen at h
  rw [List.any_eq_true] at h
  obtain ⟨e, he, hh⟩ := h
  rw [Bool.and_eq_true, beq_iff_eq, Option.bind_eq_some_iff] at hh
  exact ⟨e, by simpa using he, hh⟩
theorem seen_of {o o' : Oper} {t j : Nat} (h : waitsFor o j = true) (ho : ops[j]? = some o') (hd : o'.dst = some t) : seen ops o t = true := by
  obtain ⟨e, he, hb, rfl⟩ := waitsFor_iff h
  unfold seen
  rw [List.any_eq_true]
  exact ⟨e, by simpa using he, by simp [hb, ho, hd]⟩

structure FitB (ops : Array Oper) (T : Nat → Value → World → Prop) (a0 : Act) (listed : Array Bool) (a : Act) (w : World) : Prop where
  defers : a.defers = a0.defers
  size : a.tmps.size = a0.tmps.size
  out : ∀ s, isDst ops s = false → a.tmps.getD s undef = a0.tmps.getD s undef
  val : ∀ j o d, listed.getD j false = true → ops[j]? = some o → o.dst = some d → T d (a.tmps.getD d undef) w
  old : ∀ j o d, listed.getD j false = false → ops[j]? = some o → o.dst = some d → a.tmps.getD d undef = a0.tmps.getD d undef
  ord : ∀ j o, listed.getD j false = true → ops[j]? = some o → ∀ e ∈ o.after, Region.binds .any e = true → listed.getD e.on false = true

theorem all_listedB {n : Nat} {listed : Array Bool} (hok : formOkB n ops = true) (hr : Region.ready .any ops listed = []) : ∀ (j : Nat), j < ops.size → listed.getD j true = true := by
  intro j
  induction j using Nat.strongRecOn with
  | _ j ih =>
    intro hj
    cases h : listed.getD j true
    · exfalso
      have ho : ops[j]? = some ops[j] := Array.getElem?_eq_getElem hj
      have hf := formOkB_spec hok ho
      have : j ∈ Region.ready .any ops listed := by
        rw [mem_ready]
        refine ⟨h, _, ho, fun e he _ => ?_⟩
        have hlt := hf.before e he
        have h1 := ih e.on hlt (by omega)
        rcases Nat.lt_or_ge e.on listed.size with h' | h'
        · simp [h'] at h1 ⊢; exact h1
        · have hj' : listed.getD j true = true := by
            have : listed.size ≤ j := by omega
            simp [Array.getElem?_eq_none this]
          rw [h] at hj'; cases hj'
      rw [hr] at this
      cases this
    · rfl

theorem getD_tf {l : Array Bool} {j : Nat} (hj : j < l.size) : l.getD j true = l.getD j false := by simp [hj]

theorem wpAny_typedB {n : Nat} {a0 : Act} {w0 : World} {Q : Exit → Act → World → Prop} (hrf : ∀ w, R w w) (htr : ∀ w1 w2 w3, R w1 w2 → R w2 w3 → R w1 w3) (hst : ∀ s v w1 w2, R w1 w2 → T s v w1 → T s v w2)
    (hok : formOkB n ops = true) (hn : a0.tmps.size = n)
    (hstep : ∀ (i : Nat) (o : Oper) (d : Nat), ops[i]? = some o → o.dst = some d → ∀ (a : Act) (w : World), R w0 w → (∀ t ∈ o.looksAt ops, KnB ops T a0 o t (a.tmps.getD t undef) w) →
      (Region.wanted o (yielded ops a.tmps) = true → typedUpon P R w (T d) ((execOp a.eval o).run P w)) ∧ (Region.wanted o (yielded ops a.tmps) = false → T d undef w))
    (hQ : ∀ (a : Act) (w : World), R w0 w → a.defers = a0.defers → a.tmps.size = n → (∀ s, Kn ops T a0 s (a.tmps.getD s undef) w) → Q .normal a w) :
    ∀ (fuel : Nat) (listed : Array Bool) (a : Act) (w : World), R w0 w → listed.size = ops.size → left ops listed ≤ fuel → FitB ops T a0 listed a w → wpAny P .any ops Q fuel listed a w := by
  have done : ∀ (listed : Array Bool) (a : Act) (w : World), R w0 w → listed.size = ops.size → Region.ready .any ops listed = [] → FitB ops T a0 listed a w → Q .normal a w := by
    intro listed a w hC hsz hr hf
    refine hQ a w hC hf.defers (hf.size.trans hn) fun s => ?_
    unfold Kn
    cases hd : isDst ops s
    · rw [if_neg (by decide)]; exact hf.out s hd
    · rw [if_pos rfl]
      obtain ⟨j, o, ho, hdo⟩ := of_isDst hd
      have hj : j < ops.size := (Array.getElem?_eq_some_iff.1 ho).1
      have h1 := all_listedB hok hr j hj
      rw [getD_tf (by omega)] at h1
      exact hf.val j o s h1 ho hdo
  intro fuel
  induction fuel with
  | zero =>
    intro listed a w hC hsz hl hf
    have hr : Region.ready .any ops listed = [] := by
      rw [List.eq_nil_iff_forall_not_mem]
      intro j hj
      obtain ⟨h0, o, ho, _⟩ := mem_ready.1 hj
      have := left_set hsz (Array.getElem?_eq_some_iff.1 ho).1 h0
      omega
    exact ⟨hr, done listed a w hC hsz hr hf⟩
  | succ fuel ih =>
    intro listed a w hC hsz hl hf
    refine ⟨fun hr => done listed a w hC hsz hr hf, fun i hi => ?_⟩
    obtain ⟨h0, o, ho, hall⟩ := mem_ready.1 hi
    have hio : i < ops.size := (Array.getElem?_eq_some_iff.1 ho).1
    have h0' : listed.getD i false = false := by rw [← getD_tf (by omega)]; exact h0
    have fm := formOkB_spec hok ho
    obtain ⟨d, hd, hdn, huniq⟩ := fm.dst
    have hkn : ∀ t ∈ o.looksAt ops, KnB ops T a0 o t (a.tmps.getD t undef) w := by
      intro t ht
      unfold KnB
      cases hs : seen ops o t
      · show a.tmps.getD t undef = a0.tmps.getD t undef
        cases hdt : isDst ops t
        · exact hf.out t hdt
        · obtain ⟨j, o', ho', hdo⟩ := of_isDst hdt
          rcases fm.waits t ht j o' ho' hdo with hw | hw
          · rw [seen_of hw ho' hdo] at hs; cases hs
          · refine hf.old j o' t ?_ ho' hdo
            cases hj : listed.getD j false
            · rfl
            · obtain ⟨e, he, hb, hon⟩ := waitsFor_iff hw
              have := hf.ord j o' hj ho' e he hb
              rw [hon, h0'] at this
              cases this
      · obtain ⟨e, he, hb, o', ho', hdo⟩ := seen_iff hs
        exact hf.val e.on o' t (hall e he hb) ho' hdo
    have hty := hstep i o d ho hd a w hC hkn
    have next : ∀ (v : Value) (w' : World), R w w' → T d v w' → wpAny P .any ops Q fuel (listed.setIfInBounds i true) (a.put o.dst v) w' := by
      intro v w' hR hT
      refine ih _ _ _ (htr _ _ _ hC hR) (by simp [hsz]) (by have := left_set hsz hio h0; omega) ?_
      rw [hd]
      have other : ∀ j o' d', ops[j]? = some o' → o'.dst = some d' → d ≠ d' → i ≠ j := fun j o' d' ho' hd' hdd h => by
        subst h
        rw [ho] at ho'
        injection ho' with ho'
        subst ho'
        rw [hd] at hd'
        injection hd' with hd'
        exact hdd hd'
      refine ⟨hf.defers, by simp [Act.put, hf.size], fun s hs => ?_, fun j o' d' hj ho' hd' => ?_, fun j o' d' hj ho' hd' => ?_, fun j o' hj ho' e he hb => ?_⟩
      · have hne : d ≠ s := fun h => by rw [← h, isDst_of ho hd] at hs; cases hs
        rw [← hf.out s hs]
        simp [Act.put, Array.getElem?_setIfInBounds_ne hne]
      · by_cases hdd : d = d'
        · subst hdd
          have : d < a.tmps.size := by rw [hf.size, hn]; exact hdn
          simp [Act.put, this]; exact hT
        · rw [getD_set_ne false (other j o' d' ho' hd' hdd)] at hj
          have := hst _ _ _ _ hR (hf.val j o' d' hj ho' hd')
          simpa [Act.put, Array.getElem?_setIfInBounds_ne hdd] using this
      · by_cases hdd : d = d'
        · subst hdd
          obtain rfl := huniq j o' ho' hd'
          have : j < listed.size := by omega
          simp [this] at hj
        · rw [getD_set_ne false (other j o' d' ho' hd' hdd)] at hj
          rw [← hf.old j o' d' hj ho' hd']
          simp [Act.put, Array.getElem?_setIfInBounds_ne hdd]
      · by_cases hji : i = j
        · subst hji
          rw [ho] at ho'
          injection ho' with ho'
          subst ho'
          have h1 := hall e he hb
          by_cases hie : i = e.on
          · rw [hie] at h0'; rw [h0'] at h1; cases h1
          · rw [getD_set_ne false hie]; exact h1
        · rw [getD_set_ne false hji] at hj
          have h1 := hf.ord j o' hj ho' e he hb
          by_cases hie : i = e.on
          · rw [← hie, h0'] at h1; cases h1
          · rw [getD_set_ne false hie]; exact h1
    unfold wpOp
    rw [ho]
    simp only
    cases hwd : Region.wanted o (yielded ops a.tmps)
    · rw [if_neg (by decide)]
      exact next _ _ (hrf _) (hty.2 hwd)
    · rw [if_pos rfl]
      refine .inl ?_
      have hty' := hty.1 hwd
      unfold Oper.wp
      generalize (execOp a.eval o).run P w = r at hty'
      cases r with
      | ok x w' =>
        cases x <;> simp only [typedUpon] at hty' <;> simp only [Oper.upon]
        case value u => exact next _ _ hty'.1 hty'.2
        case skip => exact next _ _ hty'.1 hty'.2
        case enter f args => exact hty'.mono fun e w'' ⟨v, he, hR, hT⟩ => by subst he; exact next _ _ hR hT
      | halt x w' => simp only [typedUpon] at hty'

/-- What is asked of each operation. -/
def stepsB (P : Program) (R : World → World → Prop) (w0 : World) (a0 : Act) (T : Nat → Value → World → Prop) (ops : Array Oper) : List Oper → Prop
  | [] => True
  | o :: l => (∀ (a : Act) (w : World), R w0 w → AllL (fun t => KnB ops T a0 o t (a.tmps.getD t undef) w) (o.looksAt ops) →
      (Region.wanted o (yielded ops a.tmps) = true → typedUpon P R w (T (o.dst.getD 0)) ((execOp a.eval o).run P w)) ∧ (Region.wanted o (yielded ops a.tmps) = false → T (o.dst.getD 0) undef w)) ∧ stepsB P R w0 a0 T ops l

theorem stepsB.mem {w0 : World} {a0 : Act} {l : List Oper} (h : stepsB P R w0 a0 T ops l) : ∀ o ∈ l, ∀ (a : Act) (w : World), R w0 w → AllL (fun t => KnB ops T a0 o t (a.tmps.getD t undef) w) (o.looksAt ops) →
    (Region.wanted o (yielded ops a.tmps) = true → typedUpon P R w (T (o.dst.getD 0)) ((execOp a.eval o).run P w)) ∧ (Region.wanted o (yielded ops a.tmps) = false → T (o.dst.getD 0) undef w) := by
  induction l with
  | nil => intro o ho; cases ho
  | cons x l ih =>
    intro o ho
    rcases List.mem_cons.1 ho with rfl | ho
    · exact h.1
    · exact ih h.2 o ho

/-- THE REGION, written out. -/
theorem wp_region_typedB {id : Nat} {n : Nat} {a0 : Act} {w : World} {Q : Exit → Act → World → Prop} {l : List Oper} (hm : P.follows .mixedOrders = true) (hok : formOkB n l.toArray = true) (hn : a0.tmps.size = n)
    (R : World → World → Prop) (T : Nat → Value → World → Prop) (hrf : ∀ w, R w w) (htr : ∀ w1 w2 w3, R w1 w2 → R w2 w3 → R w1 w3) (hC : ∀ w, R w w.drew) (hst : ∀ s v w1 w2, R w1 w2 → T s v w1 → T s v w2)
    (hsteps : stepsB P R w a0 T l.toArray l)
    (hQ : ∀ (f : Nat → Value) (w' : World), R w w' → valsL T f w' l → Q .normal (putAll f l a0) w') : (Code.region id l.toArray true).wp P Q a0 w := by
  refine wp_region_any hm (wpAny_typedB (R := R) (T := T) (w0 := w) hrf htr hst hok hn (fun i o d ho hd a w' hC hk => ?_) (fun a w' hC h1 h2 h3 => ?_) _ _ _ _ (hC w) (by simp) ?_ ⟨rfl, rfl, fun _ _ => rfl, fun j o d hj ho _ => ?_, fun _ _ _ _ _ _ => rfl, fun j o hj ho _ _ _ => ?_⟩)
  · have hmem : o ∈ l := by
      obtain ⟨hj, rfl⟩ := Array.getElem?_eq_some_iff.1 ho
      simp
    have h := stepsB.mem hsteps o hmem a w' hC (AllL.of_mem fun t ht => hk t ht)
    rw [hd] at h
    exact h
  · rw [putAll_eq h1 (h2.trans hn.symm) (fun s hs => by have := h3 s; unfold Kn at this; rwa [hs, if_neg (by decide)] at this)]
    refine hQ _ _ hC (valsL.of_mem fun o ho => ?_)
    obtain ⟨i, hi, rfl⟩ := List.getElem_of_mem ho
    have ho' : l.toArray[i]? = some l[i] := by simp [hi]
    obtain ⟨d, hd, _, _⟩ := (formOkB_spec hok ho').dst
    have h4 := h3 d
    unfold Kn at h4
    rw [isDst_of ho' hd, if_pos rfl] at h4
    rw [hd]
    exact h4
  · unfold left
    refine Nat.le_trans (List.length_filter_le _ _) ?_
    simp
  · have : j < l.toArray.size := (Array.getElem?_eq_some_iff.1 ho).1
    simp at this
    simp [this] at hj
  · have : j < l.toArray.size := (Array.getElem?_eq_some_iff.1 ho).1
    simp at this
    simp [this] at hj
end
end Flo
end Go.Proofs.Ytpebdcimbdbbmaa
