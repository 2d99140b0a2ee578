/-
  A region that draws its order, by an invariant of memory and a table of the values that its slots come to hold. Conditions: those that each theorem names.
-/
import Derived.Test.YtloffnamjgnkhaaInv
namespace Go.Proofs.Ytloffnamjgnkhaa
set_option linter.unusedVariables false
namespace Inv
open Go Flo

def lk : List (Nat × Value) → Nat → Option Value
  | [], _ => none
  | (s, v) :: l, t => if t = s then some v else lk l t
def AllP (p : Nat → Value → Prop) : List (Nat × Value) → Prop
  | [] => True
  | (s, v) :: l => p s v ∧ AllP p l
theorem AllP.at_ {p : Nat → Value → Prop} {l : List (Nat × Value)} {t : Nat} {u : Value} (h : AllP p l) (hl : lk l t = some u) : p t u := by
  induction l with
  | nil => cases hl
  | cons x l ih =>
    obtain ⟨s, v⟩ := x
    unfold lk at hl
    split at hl
    · rename_i e
      injection hl with hl
      subst e hl
      exact h.1
    · exact ih h.2 hl

section
variable {P : Program} {ops : Array Oper} {tab : List (Nat × Value)} {M : (Nat → Bool) → (Nat → Value) → World → Prop}
/-- What is asked of an operation. -/
def StepT (P : Program) (ops : Array Oper) (tab : List (Nat × Value)) (M : (Nat → Bool) → (Nat → Value) → World → Prop) (i : Nat) (o : Oper) : Prop :=
  ∀ (a : Act) (w : World) (done : Nat → Bool), Closed ops done → done i = false → (∀ e ∈ o.after, Region.binds .any e = true → done e.on = true) → AllL (fun t => ∀ u, lk tab t = some u → a.tmps.getD t undef = u) (o.looksAt ops) → M done (fun s => a.tmps.getD s undef) w →
    upon P (fun v w' => (∀ d, o.dst = some d → ∀ u, lk tab d = some u → v = u) ∧ M (upd done i) (updF (fun s => a.tmps.getD s undef) o.dst v) w') ((execOp a.eval o).run P w)
def stepsT (P : Program) (ops : Array Oper) (tab : List (Nat × Value)) (M : (Nat → Bool) → (Nat → Value) → World → Prop) : Nat → List Oper → Prop
  | _, [] => True
  | k, o :: l => StepT P ops tab M k o ∧ stepsT P ops tab M (k + 1) l

theorem steps_of {a0 : Act} (h0 : AllP (fun s v => isDst ops s = true ∨ a0.tmps.getD s undef = v) tab) : ∀ {l : List Oper} {k : Nat}, stepsT P ops tab M k l → steps P ops (fun s v => ∀ u, lk tab s = some u → v = u) M a0 k l := by
  intro l
  induction l with
  | nil => intro k _; trivial
  | cons o l ih =>
    intro k h
    refine ⟨fun a w done hc hd hb hk hM => h.1 a w done hc hd hb (AllL.of_mem fun t ht u hu => ?_) hM, ih h.2⟩
    have h1 := hk t ht
    unfold Kn at h1
    split at h1
    · exact h1 u hu
    · rename_i hn
      rcases h0.at_ hu with h2 | h2
      · exact absurd h2 hn
      · exact h1.trans h2

/-- THE REGION. -/
theorem wp_region_tab {id : Nat} {n : Nat} {a0 : Act} {w : World} {Q : Exit → Act → World → Prop} {l : List Oper} (hm : P.follows .mixedOrders = true) (hok : formOk n l.toArray = true) (hn : a0.tmps.size = n)
    (tab : List (Nat × Value)) (M : (Nat → Bool) → (Nat → Value) → World → Prop) (hs : AllP (fun s v => isDst l.toArray s = true ∨ a0.tmps.getD s undef = v) tab) (h0 : M (fun _ => false) (fun s => a0.tmps.getD s undef) w.drew)
    (hsteps : stepsT P l.toArray tab M 0 l)
    (hQ : ∀ (f : Nat → Value) (w' : World) (done : Nat → Bool), (∀ j, j < l.length → done j = true) → M done f w' → (∀ o ∈ l, ∀ d, o.dst = some d → ∀ u, lk tab d = some u → f d = u) → Q .normal (putAll f l a0) w') : (Code.region id l.toArray true).wp P Q a0 w :=
  wp_region_inv hm hok hn (fun s v => ∀ u, lk tab s = some u → v = u) M h0 (steps_of hs hsteps) hQ

/-- An operation that gives a value. -/
theorem pureT {S : Value → World → Prop} {r : Result Next} {w : World} {v : Value} (hr : r = .ok (.value v) w) (hS : S v w) : upon P S r := by
  rw [hr]; exact hS
theorem skipT {S : Value → World → Prop} {r : Result Next} {w : World} (hr : r = .ok .skip w) (hS : S undef w) : upon P S r := by
  rw [hr]; exact hS
theorem callT {S : Value → World → Prop} {r : Result Next} {w : World} {f : FuncId} {args : Array Value} (hr : r = .ok (.enter f args) w)
    (hc : Calls P f args w (fun e w'' => ∃ v, e = .returned v ∧ S v w'')) : upon P S r := by
  rw [hr]; exact hc
theorem val0 {v : Value} : ∀ d', (none : Option Nat) = some d' → ∀ u, lk tab d' = some u → v = u := by
  intro d' e; cases e
/-- The slot's value, as the table has it. -/
theorem val1 {d : Nat} {v : Value} (h : ∀ u, lk tab d = some u → v = u) : ∀ d', (some d : Option Nat) = some d' → ∀ u, lk tab d' = some u → v = u := by
  intro d' e
  injection e with e
  subst e
  exact h
/-- What was not done before waits for nothing that hangs on it. -/
theorem Closed.not {done : Nat → Bool} (h : Closed ops done) {i j : Nat} {o : Oper} (ho : ops[j]? = some o) (hi : done i = false) (he : ∃ e ∈ o.after, Region.binds .any e = true ∧ e.on = i) : done j = false := by
  cases hj : done j
  · rfl
  · obtain ⟨e, h1, h2, rfl⟩ := he
    rw [h j o ho hj e h1 h2] at hi
    cases hi
end
end Inv
end Go.Proofs.Ytloffnamjgnkhaa
