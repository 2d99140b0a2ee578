/-
  A region that draws its order and whose operations may each give one of several values (a NaN's bits, a new block): if of each slot it is said what may lie in it, in a way that later worlds keep, and each operation keeps to that whatever the others gave, then so it is behind the region, in whatever order. Conditions: those that each theorem names.
-/
import Derived.WalkKit
import Derived.Orders
import Derived.Deep.Draws
import Derived.Deep.Quiet
namespace Go.Proofs.YtmlocepflcfkmaaDoor
set_option linter.unusedVariables false
set_option linter.unusedSimpArgs false
namespace Flo
open Go

section
variable {P : Program} {ops : Array Oper} {R : World → World → Prop} {T : Nat → Value → World → Prop}

/-- What an operation's run in w may come to. -/
def typedUpon (P : Program) (R : World → World → Prop) (w : World) (S : Value → World → Prop) : Result Next → Prop
  | .ok (.value u) w' => R w w' ∧ S u w'
  | .ok .skip w' => R w w' ∧ S undef w'
  | .ok (.enter f args) w' => Calls P f args w' (fun e w'' => ∃ v, e = .returned v ∧ R w w'' ∧ S v w'')
  | _ => False

/-- Is slot s written by an operation of the region? -/
def isDst (ops : Array Oper) (s : Nat) : Bool := ops.toList.any fun o => o.dst == some s

/-- What may lie in slot s. -/
def Kn (ops : Array Oper) (T : Nat → Value → World → Prop) (a0 : Act) (s : Nat) (u : Value) (w : World) : Prop := if isDst ops s then T s u w else u = a0.tmps.getD s undef

/-- The region's form, looked at by program: each operation writes a slot of its own; it waits for those before it alone, and for each whose slot it reads or is guarded by. -/
def formOk (n : Nat) (ops : Array Oper) : Bool :=
  (List.range ops.size).all fun i =>
    match ops[i]? with
    | none => false
    | some o =>
      (match o.dst with
       | none => false
       | some d => decide (d < n) && (List.range ops.size).all fun j => j == i || (ops[j]?).bind (·.dst) != some d) &&
      o.after.toList.all (fun e => decide (e.on < i)) &&
      (o.looksAt ops).all fun t => (List.range ops.size).all fun j => (ops[j]?).bind (·.dst) != some t || o.after.toList.any fun e => Region.binds .any e && e.on == j

structure FormAt (n : Nat) (ops : Array Oper) (i : Nat) (o : Oper) : Prop where
  dst : ∃ d, o.dst = some d ∧ d < n ∧ ∀ j o', ops[j]? = some o' → o'.dst = some d → j = i
  before : ∀ e ∈ o.after, e.on < i
  waits : ∀ t ∈ o.looksAt ops, ∀ j o', ops[j]? = some o' → o'.dst = some t → ∃ e ∈ o.after, Region.binds .any e = true ∧ e.on = j

theorem formOk_spec {n : Nat} {i : Nat} {o : Oper} (h : formOk n ops = true) (ho : ops[i]? = some o) : FormAt n ops i o := by
  have hi : i < ops.size := (Array.getElem?_eq_some_iff.1 ho).1
  unfold formOk at h
  rw [List.all_eq_true] at h
  have h1 := h i (List.mem_range.2 hi)
  simp only [ho, Bool.and_eq_true] at h1
  obtain ⟨⟨hd, hb⟩, hw⟩ := h1
  refine ⟨?_, ?_, ?_⟩
  · cases hdd : o.dst with
    | none => rw [hdd] at hd; cases hd
    | some d =>
      rw [hdd] at hd
      simp only [Bool.and_eq_true, decide_eq_true_eq, List.all_eq_true, List.mem_range, Bool.or_eq_true, beq_iff_eq, bne_iff_ne] at hd
      refine ⟨d, rfl, hd.1, fun j o' hj hd' => ?_⟩
      rcases hd.2 j (Array.getElem?_eq_some_iff.1 hj).1 with h2 | h2
      · exact h2
      · rw [hj] at h2
        exact absurd hd' h2
  · intro e he
    rw [List.all_eq_true] at hb
    simpa using hb e (by simpa using he)
  · intro t ht j o' hj hd'
    rw [List.all_eq_true] at hw
    have h2 := hw t ht
    rw [List.all_eq_true] at h2
    have h3 := h2 j (List.mem_range.2 (Array.getElem?_eq_some_iff.1 hj).1)
    simp only [hj, Option.bind_some, hd', bne_self_eq_false, Bool.false_or, List.any_eq_true, Bool.and_eq_true, beq_iff_eq] at h3
    obtain ⟨e, he, hb, hon⟩ := h3
    exact ⟨e, by simpa using he, hb, hon⟩

structure Fit (ops : Array Oper) (T : Nat → Value → World → Prop) (a0 : Act) (listed : Array Bool) (a : Act) (w : World) : Prop where
  defers : a.defers = a0.defers
  size : a.tmps.size = a0.tmps.size
  out : ∀ s, isDst ops s = false → a.tmps.getD s undef = a0.tmps.getD s undef
  val : ∀ j o d, listed.getD j false = true → ops[j]? = some o → o.dst = some d → T d (a.tmps.getD d undef) w

theorem isDst_of {j : Nat} {o : Oper} {d : Nat} (h : ops[j]? = some o) (hd : o.dst = some d) : isDst ops d = true := by
  unfold isDst
  rw [List.any_eq_true]
  obtain ⟨hj, rfl⟩ := Array.getElem?_eq_some_iff.1 h
  exact ⟨ops[j], by simp, by simp [hd]⟩

theorem of_isDst {d : Nat} (h : isDst ops d = true) : ∃ (j : Nat) (o : Oper), ops[j]? = some o ∧ o.dst = some d := by
  unfold isDst at h
  rw [List.any_eq_true] at h
  obtain ⟨o, ho, hd⟩ := h
  obtain ⟨j, hj, rfl⟩ := List.getElem_of_mem ho
  have hj' : j < ops.size := by simpa using hj
  refine ⟨j, ops[j], Array.getElem?_eq_getElem hj', by simpa using hd⟩

/-- How many have not come up yet. -/
def left (ops : Array Oper) (listed : Array Bool) : Nat := ((List.range ops.size).filter fun j => !listed.getD j true).length

theorem filter_len {p q : Nat → Bool} {l : List Nat} (h : ∀ x, q x = true → p x = true) {i : Nat} (hi : i ∈ l) (hp : p i = true) (hq : q i = false) : (l.filter q).length < (l.filter p).length := by
  induction l with
  | nil => cases hi
  | cons x l ih =>
    have hle : (l.filter q).length ≤ (l.filter p).length := by
      clear ih hi
      induction l with
      | nil => simp
      | cons y l ih2 =>
        simp only [List.filter_cons]
        cases hqy : q y
        · cases hpy : p y <;> simp <;> omega
        · rw [h y hqy]; simp; omega
    rcases List.mem_cons.1 hi with rfl | hi
    · simp only [List.filter_cons, hp, hq]; simp; omega
    · have := ih hi
      simp only [List.filter_cons]
      cases hqx : q x
      · cases hpx : p x <;> simp <;> omega
      · rw [h x hqx]; simp; omega

theorem left_set {listed : Array Bool} {i : Nat} (hsz : listed.size = ops.size) (hi : i < ops.size) (h : listed.getD i true = false) : left ops (listed.setIfInBounds i true) < left ops listed := by
  unfold left
  refine filter_len (i := i) (fun x hx => ?_) (List.mem_range.2 hi) (by simp [h]) ?_
  · by_cases hxi : i = x
    · subst hxi; simp [h]
    · rw [getD_set_ne true hxi] at hx; exact hx
  · simp [hsz, hi]

theorem all_listed {n : Nat} {listed : Array Bool} (hok : formOk n ops = true) (hr : Region.ready .any ops listed = []) : ∀ (j : Nat), j < ops.size → listed.getD j true = true := by
  intro j
  induction j using Nat.strongRecOn with
  | _ j ih =>
    intro hj
    cases h : listed.getD j true
    · exfalso
      have ho : ops[j]? = some ops[j] := Array.getElem?_eq_getElem hj
      have hf := formOk_spec hok ho
      have : j ∈ Region.ready .any ops listed := by
        rw [mem_ready]
        refine ⟨h, _, ho, fun e he _ => ?_⟩
        have hlt := hf.before e he
        have h1 := ih e.on hlt (by omega)
        rcases Nat.lt_or_ge e.on listed.size with h' | h'
        · simp [h'] at h1 ⊢; exact h1
        · have hj' : listed.getD j true = true := by
            have : listed.size ≤ j := by omega
            simp [Array.getElem?_eq_none this]
          rw [h] at hj'; cases hj'
      rw [hr] at this
      cases this
    · rfl

theorem wpAny_typed {n : Nat} {a0 : Act} {w0 : World} {Q : Exit → Act → World → Prop} (hrf : ∀ w, R w w) (htr : ∀ w1 w2 w3, R w1 w2 → R w2 w3 → R w1 w3) (hst : ∀ s v w1 w2, R w1 w2 → T s v w1 → T s v w2)
    (hok : formOk n ops = true) (hn : a0.tmps.size = n)
    (hstep : ∀ (i : Nat) (o : Oper) (d : Nat), ops[i]? = some o → o.dst = some d → ∀ (a : Act) (w : World), R w0 w → (∀ t ∈ o.looksAt ops, Kn ops T a0 t (a.tmps.getD t undef) w) →
      (Region.wanted o (yielded ops a.tmps) = true → typedUpon P R w (T d) ((execOp a.eval o).run P w)) ∧ (Region.wanted o (yielded ops a.tmps) = false → T d undef w))
    (hQ : ∀ (a : Act) (w : World), R w0 w → a.defers = a0.defers → a.tmps.size = n → (∀ s, Kn ops T a0 s (a.tmps.getD s undef) w) → Q .normal a w) :
    ∀ (fuel : Nat) (listed : Array Bool) (a : Act) (w : World), R w0 w → listed.size = ops.size → left ops listed ≤ fuel → Fit ops T a0 listed a w → wpAny P .any ops Q fuel listed a w := by
  have done : ∀ (listed : Array Bool) (a : Act) (w : World), R w0 w → listed.size = ops.size → Region.ready .any ops listed = [] → Fit ops T a0 listed a w → Q .normal a w := by
    intro listed a w hC hsz hr hf
    refine hQ a w hC hf.defers (hf.size.trans hn) fun s => ?_
    unfold Kn
    cases hd : isDst ops s
    · rw [if_neg (by decide)]; exact hf.out s hd
    · rw [if_pos rfl]
      obtain ⟨j, o, ho, hdo⟩ := of_isDst hd
      have hj : j < ops.size := (Array.getElem?_eq_some_iff.1 ho).1
      have h1 := all_listed hok hr j hj
      refine hf.val j o s ?_ ho hdo
      have hjl : j < listed.size := by omega
      simp [hjl] at h1 ⊢
      exact h1
  intro fuel
  induction fuel with
  | zero =>
    intro listed a w hC hsz hl hf
    have hr : Region.ready .any ops listed = [] := by
      rw [List.eq_nil_iff_forall_not_mem]
      intro j hj
      obtain ⟨h0, o, ho, _⟩ := mem_ready.1 hj
      have := left_set hsz (Array.getElem?_eq_some_iff.1 ho).1 h0
      omega
    exact ⟨hr, done listed a w hC hsz hr hf⟩
  | succ fuel ih =>
    intro listed a w hC hsz hl hf
    refine ⟨fun hr => done listed a w hC hsz hr hf, fun i hi => ?_⟩
    obtain ⟨h0, o, ho, hall⟩ := mem_ready.1 hi
    have hio : i < ops.size := (Array.getElem?_eq_some_iff.1 ho).1
    have fm := formOk_spec hok ho
    obtain ⟨d, hd, hdn, huniq⟩ := fm.dst
    have hkn : ∀ t ∈ o.looksAt ops, Kn ops T a0 t (a.tmps.getD t undef) w := by
      intro t ht
      unfold Kn
      cases hdt : isDst ops t
      · rw [if_neg (by decide)]; exact hf.out t hdt
      · rw [if_pos rfl]
        obtain ⟨j, o', ho', hdo⟩ := of_isDst hdt
        obtain ⟨e, he, hb, hon⟩ := fm.waits t ht j o' ho' hdo
        have := hall e he hb
        rw [hon] at this
        exact hf.val j o' t this ho' hdo
    have hty := hstep i o d ho hd a w hC hkn
    have next : ∀ (v : Value) (w' : World), R w w' → T d v w' → wpAny P .any ops Q fuel (listed.setIfInBounds i true) (a.put o.dst v) w' := by
      intro v w' hR hT
      refine ih _ _ _ (htr _ _ _ hC hR) (by simp [hsz]) (by have := left_set hsz hio h0; omega) ?_
      rw [hd]
      refine ⟨hf.defers, by simp [Act.put, hf.size], fun s hs => ?_, fun j o' d' hj ho' hd' => ?_⟩
      · have hne : d ≠ s := fun h => by rw [← h, isDst_of ho hd] at hs; cases hs
        rw [← hf.out s hs]
        simp [Act.put, Array.getElem?_setIfInBounds_ne hne]
      · by_cases hdd : d = d'
        · subst hdd
          have : d < a.tmps.size := by rw [hf.size, hn]; exact hdn
          simp [Act.put, this]; exact hT
        · have hji : i ≠ j := fun h => by
            subst h
            rw [ho] at ho'
            injection ho' with ho'
            subst ho'
            rw [hd] at hd'
            injection hd' with hd'
            exact hdd hd'
          rw [getD_set_ne false hji] at hj
          have := hst _ _ _ _ hR (hf.val j o' d' hj ho' hd')
          simpa [Act.put, Array.getElem?_setIfInBounds_ne hdd] using this
    unfold wpOp
    rw [ho]
    simp only
    cases hwd : Region.wanted o (yielded ops a.tmps)
    · rw [if_neg (by decide)]
      exact next _ _ (hrf _) (hty.2 hwd)
    · rw [if_pos rfl]
      refine .inl ?_
      have hty' := hty.1 hwd
      unfold Oper.wp
      generalize (execOp a.eval o).run P w = r at hty'
      cases r with
      | ok x w' =>
        cases x <;> simp only [typedUpon] at hty' <;> simp only [Oper.upon]
        case value u => exact next _ _ hty'.1 hty'.2
        case skip => exact next _ _ hty'.1 hty'.2
        case enter f args => exact hty'.mono fun e w'' ⟨v, he, hR, hT⟩ => by subst he; exact next _ _ hR hT
      | halt x w' => simp only [typedUpon] at hty'

/-- THE REGION. -/
theorem wp_region_typed {id : Nat} {n : Nat} {a0 : Act} {w : World} {Q : Exit → Act → World → Prop} (hm : P.follows .mixedOrders = true) (hrf : ∀ w, R w w) (htr : ∀ w1 w2 w3, R w1 w2 → R w2 w3 → R w1 w3) (hst : ∀ s v w1 w2, R w1 w2 → T s v w1 → T s v w2)
    (hok : formOk n ops = true) (hn : a0.tmps.size = n) (hC : R w { w with drawn := w.drawn + 1 })
    (hstep : ∀ (i : Nat) (o : Oper) (d : Nat), ops[i]? = some o → o.dst = some d → ∀ (a : Act) (w' : World), R w w' → (∀ t ∈ o.looksAt ops, Kn ops T a0 t (a.tmps.getD t undef) w') →
      (Region.wanted o (yielded ops a.tmps) = true → typedUpon P R w' (T d) ((execOp a.eval o).run P w')) ∧ (Region.wanted o (yielded ops a.tmps) = false → T d undef w'))
    (hQ : ∀ (a : Act) (w' : World), R w w' → a.defers = a0.defers → a.tmps.size = n → (∀ s, Kn ops T a0 s (a.tmps.getD s undef) w') → Q .normal a w') :
    (Code.region id ops true).wp P Q a0 w := by
  refine wp_region_any hm (wpAny_typed (w0 := w) hrf htr hst hok hn hstep hQ _ _ _ _ hC (by simp) ?_ ⟨rfl, rfl, fun _ _ => rfl, fun j o d hj ho _ => ?_⟩)
  · unfold left
    refine Nat.le_trans (List.length_filter_le _ _) ?_
    simp
  · have : j < ops.size := (Array.getElem?_eq_some_iff.1 ho).1
    simp [this] at hj

/-! ### The same for a region that is written out: goals a row each -/

def AllL (p : Nat → Prop) : List Nat → Prop
  | [] => True
  | x :: l => p x ∧ AllL p l

theorem AllL.of_mem {p : Nat → Prop} {l : List Nat} (h : ∀ x ∈ l, p x) : AllL p l := by
  induction l with
  | nil => trivial
  | cons x l ih => exact ⟨h x (List.mem_cons_self ..), ih fun y hy => h y (List.mem_cons_of_mem _ hy)⟩
theorem AllL.mem {p : Nat → Prop} {l : List Nat} (h : AllL p l) : ∀ x ∈ l, p x := by
  induction l with
  | nil => intro x hx; cases hx
  | cons y l ih =>
    intro x hx
    rcases List.mem_cons.1 hx with rfl | hx
    · exact h.1
    · exact ih h.2 x hx

/-- What is asked of each operation. -/
def stepsL (P : Program) (R : World → World → Prop) (w0 : World) (T : Nat → Value → World → Prop) (ops : Array Oper) : List Oper → Prop
  | [] => True
  | o :: l => (∀ (a : Act) (w : World), R w0 w → AllL (fun t => T t (a.tmps.getD t undef) w) (o.looksAt ops) →
      (Region.wanted o (yielded ops a.tmps) = true → typedUpon P R w (T (o.dst.getD 0)) ((execOp a.eval o).run P w)) ∧ (Region.wanted o (yielded ops a.tmps) = false → T (o.dst.getD 0) undef w)) ∧ stepsL P R w0 T ops l

/-- What is asked of the slots that the region reads and does not write. -/
def startL (T : Nat → Value → World → Prop) (ops : Array Oper) (a0 : Act) (w0 : World) : List Oper → Prop
  | [] => True
  | o :: l => AllL (fun t => isDst ops t = true ∨ T t (a0.tmps.getD t undef) w0) (o.looksAt ops) ∧ startL T ops a0 w0 l

/-- What is known of the slots behind it. -/
def valsL (T : Nat → Value → World → Prop) (f : Nat → Value) (w : World) : List Oper → Prop
  | [] => True
  | o :: l => T (o.dst.getD 0) (f (o.dst.getD 0)) w ∧ valsL T f w l

/-- The frame behind it. -/
def putAll (f : Nat → Value) : List Oper → Act → Act
  | [], a => a
  | o :: l, a => putAll f l (a.put o.dst (f (o.dst.getD 0)))

theorem stepsL.mem {w0 : World} {l : List Oper} (h : stepsL P R w0 T ops l) : ∀ o ∈ l, ∀ (a : Act) (w : World), R w0 w → AllL (fun t => T t (a.tmps.getD t undef) w) (o.looksAt ops) →
    (Region.wanted o (yielded ops a.tmps) = true → typedUpon P R w (T (o.dst.getD 0)) ((execOp a.eval o).run P w)) ∧ (Region.wanted o (yielded ops a.tmps) = false → T (o.dst.getD 0) undef w) := by
  induction l with
  | nil => intro o ho; cases ho
  | cons x l ih =>
    intro o ho
    rcases List.mem_cons.1 ho with rfl | ho
    · exact h.1
    · exact ih h.2 o ho
theorem startL.mem {w0 : World} {a0 : Act} {l : List Oper} (h : startL T ops a0 w0 l) : ∀ o ∈ l, AllL (fun t => isDst ops t = true ∨ T t (a0.tmps.getD t undef) w0) (o.looksAt ops) := by
  induction l with
  | nil => intro o ho; cases ho
  | cons x l ih =>
    intro o ho
    rcases List.mem_cons.1 ho with rfl | ho
    · exact h.1
    · exact ih h.2 o ho
theorem valsL.of_mem {f : Nat → Value} {w : World} {l : List Oper} (h : ∀ o ∈ l, T (o.dst.getD 0) (f (o.dst.getD 0)) w) : valsL T f w l := by
  induction l with
  | nil => trivial
  | cons o l ih => exact ⟨h o (List.mem_cons_self ..), ih fun x hx => h x (List.mem_cons_of_mem _ hx)⟩

theorem putAll_defers (f : Nat → Value) (l : List Oper) : ∀ a : Act, (putAll f l a).defers = a.defers := by
  induction l with
  | nil => intro a; rfl
  | cons o l ih => intro a; rw [putAll, ih]; cases o.dst <;> rfl
theorem putAll_size (f : Nat → Value) (l : List Oper) : ∀ a : Act, (putAll f l a).tmps.size = a.tmps.size := by
  induction l with
  | nil => intro a; rfl
  | cons o l ih => intro a; rw [putAll, ih]; cases o.dst <;> simp [Act.put]
theorem putAll_at (f : Nat → Value) (l : List Oper) : ∀ (a : Act) (s : Nat), s < a.tmps.size → (putAll f l a).tmps.getD s undef = if l.any (fun o => o.dst == some s) then f s else a.tmps.getD s undef := by
  induction l with
  | nil => intro a s _; simp [putAll]
  | cons o l ih =>
    intro a s hs
    rw [putAll, ih _ s (by cases o.dst <;> simp [Act.put, hs])]
    cases hd : o.dst with
    | none => simp [Act.put, hd]
    | some d =>
      by_cases hds : d = s
      · subst hds
        simp [Act.put, hd, hs]
      · simp [Act.put, hd, hds, Array.getElem?_setIfInBounds_ne hds]

theorem putAll_eq {a a0 : Act} {l : List Oper} (h1 : a.defers = a0.defers) (h2 : a.tmps.size = a0.tmps.size) (h3 : ∀ s, isDst l.toArray s = false → a.tmps.getD s undef = a0.tmps.getD s undef) :
    a = putAll (fun s => a.tmps.getD s undef) l a0 := by
  have hd := putAll_defers (fun s => a.tmps.getD s undef) l a0
  have hs := putAll_size (fun s => a.tmps.getD s undef) l a0
  have ht : a.tmps = (putAll (fun s => a.tmps.getD s undef) l a0).tmps := by
    apply Array.ext
    · rw [hs, h2]
    · intro i hi1 hi2
      have e := putAll_at (fun s => a.tmps.getD s undef) l a0 i (by omega)
      have e1 : (putAll (fun s => a.tmps.getD s undef) l a0).tmps.getD i undef = a.tmps.getD i undef := by
        rw [e]
        by_cases hn : (l.any fun o => o.dst == some i) = true
        · rw [if_pos hn]
        · rw [if_neg hn]
          exact (h3 i (by unfold isDst; simpa using hn)).symm
      simp only [Array.getD, hi1, hi2, dif_pos] at e1
      exact e1.symm
  cases a
  simp only at ht h1 hd
  generalize putAll _ l a0 = z at *
  cases z
  simp only at ht hd
  subst ht
  rw [h1, hd]

theorem wp_region_typed_lit {id : Nat} {n : Nat} {a0 : Act} {w : World} {Q : Exit → Act → World → Prop} {l : List Oper} (hm : P.follows .mixedOrders = true) (hok : formOk n l.toArray = true) (hn : a0.tmps.size = n)
    (R : World → World → Prop) (T : Nat → Value → World → Prop) (hrf : ∀ w, R w w) (htr : ∀ w1 w2 w3, R w1 w2 → R w2 w3 → R w1 w3) (hC : ∀ w, R w w.drew) (hst : ∀ s v w1 w2, R w1 w2 → T s v w1 → T s v w2)
    (hstart : startL T l.toArray a0 w l) (hsteps : stepsL P R w T l.toArray l)
    (hQ : ∀ (f : Nat → Value) (w' : World), R w w' → valsL T f w' l → Q .normal (putAll f l a0) w') : (Code.region id l.toArray true).wp P Q a0 w := by
  refine wp_region_typed (R := R) (T := T) hm hrf htr hst hok hn (hC w) (fun i o d ho hd a w' hC hk => ?_) (fun a w' hC h1 h2 h3 => ?_)
  · have hmem : o ∈ l := by
      obtain ⟨hj, rfl⟩ := Array.getElem?_eq_some_iff.1 ho
      simp
    have h := stepsL.mem hsteps o hmem a w' hC (AllL.of_mem fun t ht => by
      have h4 := hk t ht
      unfold Kn at h4
      cases hdt : isDst l.toArray t
      · rw [hdt, if_neg (by decide)] at h4
        rw [h4]
        rcases AllL.mem (startL.mem hstart o hmem) t ht with h5 | h5
        · rw [hdt] at h5; cases h5
        · exact hst _ _ _ _ hC h5
      · rw [hdt, if_pos rfl] at h4; exact h4)
    rw [hd] at h
    exact h
  · rw [putAll_eq h1 (h2.trans hn.symm) (fun s hs => by have := h3 s; unfold Kn at this; rwa [hs, if_neg (by decide)] at this)]
    refine hQ _ _ hC (valsL.of_mem fun o ho => ?_)
    obtain ⟨i, hi, rfl⟩ := List.getElem_of_mem ho
    have hoi : l.toArray[i]? = some l[i] := by simp [hi]
    obtain ⟨d, hd, _, _⟩ := (formOk_spec hok hoi).dst
    rw [hd]
    have := h3 d
    unfold Kn at this
    rwa [isDst_of hoi hd, if_pos rfl] at this
end
end Flo
end Go.Proofs.YtmlocepflcfkmaaDoor
