/-
  FLOATS UP TO THE BITS OF A NaN. A float is told by an 'Option Nat': the bits of a number or of an infinity, or 'none', a NaN of whatever bits (the model asks its tape for them). 'Rep k v b': the bits b are told by v. Here: what the operations give in these words, and the walk's laws for them.
  Conditions: none beyond those that each theorem names.
-/
import Derived.WalkKit
import Derived.WalkLawsBesides
import Derived.Deep.Draws
namespace Go.Proofs.Ytpebdcimbdbbmaa
namespace Flo
open Go

/-- Are these the bits of a NaN? -/
def nan (k : FloatKind) (b : Nat) : Bool := (k.decode b).isNaN

theorem nan32 (b : Nat) : nan .f32 b = decide (2139095040 < b % 2147483648) := by
  have e1 : (FloatKind.f32.format.signWeight) = 2147483648 := rfl
  have e2 : (FloatKind.f32.format.infRung) = 2139095040 := rfl
  have e3 : (FloatKind.f32.format.binade) = 8388608 := rfl
  unfold nan FloatKind.decode Ieee.Format.read
  simp only [e1, e2, e3]
  by_cases h1 : b % 2147483648 < 8388608
  · rw [if_pos h1]; simp [Ieee.Datum.isNaN]; omega
  · rw [if_neg h1]
    by_cases h2 : b % 2147483648 < 2139095040
    · rw [if_pos h2]; simp [Ieee.Datum.isNaN]; omega
    · rw [if_neg h2]
      by_cases h3 : b % 2147483648 = 2139095040
      · rw [if_pos h3]; simp [Ieee.Datum.isNaN]; omega
      · rw [if_neg h3]; simp [Ieee.Datum.isNaN]; omega

theorem nan64 (b : Nat) : nan .f64 b = decide (9218868437227405312 < b % 9223372036854775808) := by
  have e1 : (FloatKind.f64.format.signWeight) = 9223372036854775808 := rfl
  have e2 : (FloatKind.f64.format.infRung) = 9218868437227405312 := rfl
  have e3 : (FloatKind.f64.format.binade) = 4503599627370496 := rfl
  unfold nan FloatKind.decode Ieee.Format.read
  simp only [e1, e2, e3]
  by_cases h1 : b % 9223372036854775808 < 4503599627370496
  · rw [if_pos h1]; simp [Ieee.Datum.isNaN]; omega
  · rw [if_neg h1]
    by_cases h2 : b % 9223372036854775808 < 9218868437227405312
    · rw [if_pos h2]; simp [Ieee.Datum.isNaN]; omega
    · rw [if_neg h2]
      by_cases h3 : b % 9223372036854775808 = 9218868437227405312
      · rw [if_pos h3]; simp [Ieee.Datum.isNaN]; omega
      · rw [if_neg h3]; simp [Ieee.Datum.isNaN]; omega

theorem nan_iff (k : FloatKind) (b : Nat) : nan k b = decide (k.format.infRung < b % k.format.signWeight) := by
  cases k
  · exact nan32 b
  · exact nan64 b

/-- The bits b are told by v. -/
def Rep (k : FloatKind) (v : Option Nat) (b : Nat) : Prop :=
  b < 2 ^ k.format.width ∧ match v with
  | some c => b = c ∧ nan k b = false
  | none => nan k b = true

/-- What tells the bits b. -/
def tell (k : FloatKind) (b : Nat) : Option Nat := if nan k b then none else some b

theorem rep_tell (k : FloatKind) (b : Nat) (h : b < 2 ^ k.format.width) : Rep k (tell k b) b := by
  unfold tell Rep
  cases hn : nan k b <;> simp [hn, h]

theorem rep_wf (k : FloatKind) (b : Nat) (h : (Lit.float k b).wf = true) : Rep k (tell k b) b := by
  refine rep_tell k b ?_
  cases k
  · show b < 4294967296
    simpa [Lit.wf] using h
  · show b < 18446744073709551616
    simpa [Lit.wf] using h

theorem Rep.lt {k : FloatKind} {v : Option Nat} {b : Nat} (h : Rep k v b) : b < 2 ^ k.format.width := h.1

theorem Rep.some {k : FloatKind} {c b : Nat} (h : Rep k (some c) b) : b = c := h.2.1

theorem rep_some {k : FloatKind} {b : Nat} (h : b < 2 ^ k.format.width) (hn : nan k b = false) : Rep k (some b) b := ⟨h, rfl, hn⟩

theorem Rep.none {k : FloatKind} {b : Nat} (h : Rep k none b) : nan k b = true := h.2

/-- A closed number. -/
theorem rep_lit (k : FloatKind) (b : Nat) (h : (decide (b < 2 ^ k.format.width) && !nan k b) = true) : Rep k (some b) b := by
  simp only [Bool.and_eq_true, decide_eq_true_eq, Bool.not_eq_true'] at h
  exact rep_some h.1 h.2

/-! ### What is written is no NaN, but for a NaN -/

theorem word_nan (k : FloatKind) (neg : Bool) (r : Nat) (h : r ≤ k.format.infRung) : nan k (k.format.word neg r) = false := by
  rw [nan_iff]
  have hw : k.format.infRung < k.format.signWeight := Ieee.Format.infRung_lt _
  have e : k.format.word neg r % k.format.signWeight = r := by
    unfold Ieee.Format.word
    cases neg
    · simp; exact Nat.mod_eq_of_lt (by omega)
    · simp; exact Nat.mod_eq_of_lt (by omega)
  rw [e]
  simp; omega

theorem nearest_nan (k : FloatKind) (neg : Bool) (m : Nat) (p : Int) : nan k (k.format.nearest neg m p) = false := by
  unfold Ieee.Format.nearest
  dsimp only
  split
  · exact word_nan k neg 0 (Nat.zero_le _)
  · exact word_nan k neg _ (Nat.min_le_right _ _)

theorem write_nan (k : FloatKind) (d : Ieee.Datum) (h : d.isNaN = false) : nan k (k.format.write d) = false := by
  cases d with
  | number s m e => exact nearest_nan k s m e
  | infinity s => exact word_nan k s _ (Nat.le_refl _)
  | nan s t => simp [Ieee.Datum.isNaN] at h

theorem rep_write (k : FloatKind) (d : Ieee.Datum) (h : d.isNaN = false) : Rep k (some (k.format.write d)) (k.format.write d) :=
  rep_some (k.format.write_lt d) (write_nan k d h)

/-! ### The four operations -/

theorem sum_nan {d e r : Ieee.Datum} (h : d.sum e = some r) : r.isNaN = false := by
  cases d <;> cases e <;> simp only [Ieee.Datum.sum] at h <;> first | (cases h; done) | skip
  all_goals first
    | (cases h; rfl)
    | (split at h <;> first | (cases h; done) | (cases h; rfl))

theorem product_nan {d e r : Ieee.Datum} (h : d.product e = some r) : r.isNaN = false := by
  cases d <;> cases e <;> simp only [Ieee.Datum.product] at h <;> first | (cases h; done) | skip
  all_goals first
    | (cases h; rfl)
    | (split at h <;> first | (cases h; done) | (cases h; rfl))

theorem quotient_nan {n : Nat} {d e r : Ieee.Datum} (h : d.quotient n e = some r) : r.isNaN = false := by
  cases d <;> cases e <;> simp only [Ieee.Datum.quotient] at h <;> first | (cases h; done) | skip
  all_goals first
    | (cases h; rfl)
    | (split at h <;> first | (cases h; done) | (cases h; rfl) | (split at h <;> first | (cases h; done) | (cases h; rfl)))

theorem root_nan {n : Nat} {d r : Ieee.Datum} (h : d.root n = some r) : r.isNaN = false := by
  cases d <;> simp only [Ieee.Datum.root] at h <;> first | (cases h; done) | skip
  all_goals first
    | (cases h; rfl)
    | (split at h <;> first | (cases h; done) | (cases h; rfl) | (split at h <;> first | (cases h; done) | (cases h; rfl)))

theorem map_write {k : FloatKind} {o : Option Ieee.Datum} {r : Nat} (h : o.map k.format.write = some r) (hn : ∀ d, o = some d → d.isNaN = false) : nan k r = false := by
  cases o with
  | none => cases h
  | some d => cases h; exact write_nan k d (hn d rfl)

theorem floatBits_nan {op : BinOp} {k : FloatKind} {x y r : Nat} (h : floatBits op k x y = some r) : nan k r = false := by
  unfold floatBits at h
  split at h
  · exact map_write h fun d hd => sum_nan hd
  · exact map_write h fun d hd => sum_nan hd
  · exact map_write h fun d hd => product_nan hd
  · exact map_write h fun d hd => quotient_nan hd
  · cases h

theorem floatBits_lt {op : BinOp} {k : FloatKind} {x y r : Nat} (h : floatBits op k x y = some r) : r < 2 ^ k.format.width := by
  unfold floatBits at h
  split at h
  · exact k.format.add_lt h
  · exact k.format.sub_lt h
  · exact k.format.mul_lt h
  · exact k.format.div_lt h
  · cases h

theorem read_nan {k : FloatKind} {b : Nat} (h : nan k b = true) : ∃ s t, k.format.read b = .nan s t := by
  unfold nan FloatKind.decode at h
  cases hd : k.format.read b with
  | nan s t => exact ⟨s, t, rfl⟩
  | number s m e => rw [hd] at h; simp [Ieee.Datum.isNaN] at h
  | infinity s => rw [hd] at h; simp [Ieee.Datum.isNaN] at h

theorem floatBits_left {op : BinOp} {k : FloatKind} {x y : Nat} (h : nan k x = true) : floatBits op k x y = none := by
  obtain ⟨s, t, e⟩ := read_nan h
  unfold floatBits
  split <;> simp [Ieee.Format.add, Ieee.Format.sub, Ieee.Format.mul, Ieee.Format.div, e, Ieee.Datum.sum, Ieee.Datum.product, Ieee.Datum.quotient]

theorem floatBits_right {op : BinOp} {k : FloatKind} {x y : Nat} (h : nan k y = true) : floatBits op k x y = none := by
  obtain ⟨s, t, e⟩ := read_nan h
  unfold floatBits
  cases hx : k.format.read x <;> split <;> simp [Ieee.Format.add, Ieee.Format.sub, Ieee.Format.mul, Ieee.Format.div, e, hx, Ieee.Datum.opposite, Ieee.Datum.sum, Ieee.Datum.product, Ieee.Datum.quotient]

/-- What the operation tells of two told numbers. -/
def ar (op : BinOp) (k : FloatKind) (v u : Option Nat) : Option Nat := v.bind fun a => u.bind fun b => floatBits op k a b

theorem ar_of {op : BinOp} {k : FloatKind} {v u : Option Nat} {x y : Nat} (hx : Rep k v x) (hy : Rep k u y) : ar op k v u = floatBits op k x y := by
  unfold ar
  cases v with
  | none => exact (floatBits_left hx.none).symm
  | some a =>
    cases u with
    | none => exact (floatBits_right hy.none).symm
    | some b => rw [hx.some, hy.some]; rfl

theorem cut32 (t : Nat) : Rep .f32 none (t % 2 * 2 ^ 31 + 0x7f800000 + 1 + t / 2 % (2 ^ 23 - 1)) := by
  have hu : t / 2 % (2 ^ 23 - 1) < 2 ^ 23 - 1 := Nat.mod_lt _ (by decide)
  generalize t / 2 % (2 ^ 23 - 1) = u at hu
  have h2 : t % 2 = 0 ∨ t % 2 = 1 := by omega
  refine ⟨?_, ?_⟩
  · show _ < 4294967296
    omega
  · show nan .f32 _ = true
    rw [nan32]
    simp only [decide_eq_true_eq]
    rcases h2 with h | h <;> rw [h] <;> omega

theorem cut64 (t : Nat) : Rep .f64 none (t % 2 * 2 ^ 63 + 0x7ff0000000000000 + 1 + t / 2 % (2 ^ 52 - 1)) := by
  have hu : t / 2 % (2 ^ 52 - 1) < 2 ^ 52 - 1 := Nat.mod_lt _ (by decide)
  generalize t / 2 % (2 ^ 52 - 1) = u at hu
  have h2 : t % 2 = 0 ∨ t % 2 = 1 := by omega
  refine ⟨?_, ?_⟩
  · show _ < 18446744073709551616
    omega
  · show nan .f64 _ = true
    rw [nan64]
    simp only [decide_eq_true_eq]
    rcases h2 with h | h <;> rw [h] <;> omega

/-- The answer of the tape for the bits of a NaN are those of a NaN. -/
theorem cut_nan (k : FloatKind) (x y t : Nat) : Rep k none ((Question.nanBits k x y).cut t) := by
  cases k
  · exact cut32 t
  · exact cut64 t

theorem cut_nanConv (k : FloatKind) (x t : Nat) : Rep k none ((Question.nanConv k x).cut t) := by
  cases k
  · exact cut32 t
  · exact cut64 t

def isAr : BinOp → Bool
  | .add | .sub | .mul | .quo => true
  | _ => false

theorem run_ar {P : Program} (w : World) {op : BinOp} (hop : isAr op = true) (t : TypeId) {k : FloatKind} {v u : Option Nat} {x y : Nat} (hx : Rep k v x) (hy : Rep k u y) :
    ∃ r n, (binOp op t (.float k x) (.float k y)).run P w = .ok (.float k r) (w.drewN n) ∧ Rep k (ar op k v u) r := by
  rw [ar_of hx hy]
  cases h : floatBits op k x y with
  | some r => exact ⟨r, 0, run_float_arith w op t k x y r h, rep_some (floatBits_lt h) (floatBits_nan h)⟩
  | none =>
    refine ⟨(Question.nanBits k x y).cut (w.tape w.drawn (.nanBits k x y)), 1, ?_, cut_nan k x y _⟩
    unfold floatBits at h
    cases op <;> simp only [isAr] at hop <;> first | (cases hop; done) | skip
    all_goals
      simp only at h
      simp [binOp, Op.floatArith, h, Question.forced, World.drew_is_drewN]

section
variable {P : Program} {w : World} {ops : Array Oper} {rest : List Oper} {o : Oper} {a : Act} {Q : Exit → Act → World → Prop}

/-- THE WALK's LAW for + - * / on floats. -/
theorem wpList_ar (hg : o.guard = none) (x y : Operand) (op : BinOp) (t yt : TypeId) (ho : o.op = .binOp op t x y yt) (hop : isAr op = true)
    (k : FloatKind) (bx b2 : Nat) (ex : a.eval x = .float k bx) (ey : a.eval y = .float k b2) {v u : Option Nat} (hx : Rep k v bx) (hy : Rep k u b2)
    (h : ∀ r n, Rep k (ar op k v u) r → wpList P ops Q rest (a.put o.dst (.float k r)) (w.drewN n)) : wpList P ops Q (o :: rest) a w := by
  refine wpList_plain hg fun K hK => ?_
  obtain ⟨r, n, hrun, hr⟩ := run_ar (P := P) w hop t hx hy
  have hgd : (eqGuard op t x y (.float k bx) (.float k b2)).run P w = .ok () w := by
    cases op <;> simp only [isAr] at hop <;> first | (cases hop; done) | (simp [eqGuard])
  unfold Oper.wp
  simp [execOp, ho, ex, ey, hgd, hrun, Result.andThen]
  exact hK _ _ (h r n hr)

/-- The same where the operation is guarded: at its own run. -/
theorem wp_ar {K : Act → World → Prop} (x y : Operand) (op : BinOp) (t yt : TypeId) (ho : o.op = .binOp op t x y yt) (hop : isAr op = true)
    (k : FloatKind) (bx b2 : Nat) (ex : a.eval x = .float k bx) (ey : a.eval y = .float k b2) {v u : Option Nat} (hx : Rep k v bx) (hy : Rep k u b2)
    (h : ∀ r n, Rep k (ar op k v u) r → K (a.put o.dst (.float k r)) (w.drewN n)) : o.wp P a w K Q := by
  obtain ⟨r, n, hrun, hr⟩ := run_ar (P := P) w hop t hx hy
  have hgd : (eqGuard op t x y (.float k bx) (.float k b2)).run P w = .ok () w := by
    cases op <;> simp only [isAr] at hop <;> first | (cases hop; done) | (simp [eqGuard])
  unfold Oper.wp
  simp [execOp, ho, ex, ey, hgd, hrun, Result.andThen]
  exact h r n hr
end

/-! ### Comparisons -/

/-- How two told numbers stand to each other. -/
def ord (k : FloatKind) (v u : Option Nat) : Option Ordering := v.bind fun a => u.bind fun b => k.format.order a b

theorem order_left {k : FloatKind} {x y : Nat} (h : nan k x = true) : k.format.order x y = none := by
  obtain ⟨s, t, e⟩ := read_nan h
  simp [Ieee.Format.order, e, Ieee.Datum.order]

theorem order_right {k : FloatKind} {x y : Nat} (h : nan k y = true) : k.format.order x y = none := by
  obtain ⟨s, t, e⟩ := read_nan h
  cases hx : k.format.read x <;> simp [Ieee.Format.order, e, hx, Ieee.Datum.order]

theorem ord_of {k : FloatKind} {v u : Option Nat} {x y : Nat} (hx : Rep k v x) (hy : Rep k u y) : k.format.order x y = ord k v u := by
  unfold ord
  cases v with
  | none => exact order_left hx.none
  | some a =>
    cases u with
    | none => exact order_right hy.none
    | some b => rw [hx.some, hy.some]; rfl

/-- A comparison of told numbers. -/
def cm (op : BinOp) (k : FloatKind) (v u : Option Nat) : Bool :=
  match op with
  | .eql => ord k v u == some .eq
  | .neq => ord k v u != some .eq
  | .lss => ord k v u == some .lt
  | .leq => ord k v u == some .lt || ord k v u == some .eq
  | .gtr => ord k v u == some .gt
  | .geq => ord k v u == some .gt || ord k v u == some .eq
  | _ => false

def isCm : BinOp → Bool
  | .eql | .neq | .lss | .leq | .gtr | .geq => true
  | _ => false

theorem run_cm {P : Program} (w : World) {op : BinOp} (hop : isCm op = true) (t : TypeId) {k : FloatKind} {v u : Option Nat} {x y : Nat} (hx : Rep k v x) (hy : Rep k u y) :
    (binOp op t (.float k x) (.float k y)).run P w = .ok (.bool (cm op k v u)) w := by
  have e := ord_of hx hy
  cases op <;> simp only [isCm] at hop <;> first | (cases hop; done) | simp [binOp, Op.floatCmp, cm, e]

section
variable {P : Program} {w : World} {ops : Array Oper} {rest : List Oper} {o : Oper} {a : Act} {Q : Exit → Act → World → Prop}

theorem run_eqGuard_float {P : Program} {w : World} (op : BinOp) (t : TypeId) (x y : Operand) (k : FloatKind) (b c : Nat) : (eqGuard op t x y (.float k b) (.float k c)).run P w = .ok () w := by
  cases op <;> simp [eqGuard]

theorem wpList_cm (hg : o.guard = none) (x y : Operand) (op : BinOp) (t yt : TypeId) (ho : o.op = .binOp op t x y yt) (hop : isCm op = true)
    (k : FloatKind) (bx b2 : Nat) (ex : a.eval x = .float k bx) (ey : a.eval y = .float k b2) {v u : Option Nat} (hx : Rep k v bx) (hy : Rep k u b2)
    (h : wpList P ops Q rest (a.put o.dst (.bool (cm op k v u))) w) : wpList P ops Q (o :: rest) a w := by
  refine wpList_plain hg fun K hK => ?_
  have hrun := run_cm (P := P) w hop t hx hy
  have hgd := run_eqGuard_float (P := P) (w := w) op t x y k bx b2
  unfold Oper.wp
  simp [execOp, ho, ex, ey, hgd, hrun, Result.andThen]
  exact hK _ _ h

theorem wp_cm {K : Act → World → Prop} (x y : Operand) (op : BinOp) (t yt : TypeId) (ho : o.op = .binOp op t x y yt) (hop : isCm op = true)
    (k : FloatKind) (bx b2 : Nat) (ex : a.eval x = .float k bx) (ey : a.eval y = .float k b2) {v u : Option Nat} (hx : Rep k v bx) (hy : Rep k u b2)
    (h : K (a.put o.dst (.bool (cm op k v u))) w) : o.wp P a w K Q := by
  have hrun := run_cm (P := P) w hop t hx hy
  have hgd := run_eqGuard_float (P := P) (w := w) op t x y k bx b2
  unfold Oper.wp
  simp [execOp, ho, ex, ey, hgd, hrun, Result.andThen]
  exact h
end

/-! ### Conversions -/

/-- 'float64(x)' of a float32. -/
def up (v : Option Nat) : Option Nat := v.bind fun a => some (FloatKind.f64.encode (FloatKind.f32.decode a))

/-- 'float32(x)' of a float64, where it is not too great. -/
def down (v : Option Nat) : Option Nat := v.bind fun a => some (FloatKind.f32.encode (FloatKind.f64.decode a))

/-- Is the number too great for a float32 (an infinity is not)? -/
def over (v : Option Nat) : Bool := match v with
  | some a => !(FloatKind.f64.decode a).isInfinity && (FloatKind.f32.decode (FloatKind.f32.encode (FloatKind.f64.decode a))).isInfinity
  | none => false

/-- A NaN's conversion: what the tape gives. -/
def qnan (b : Nat) (w : World) : Nat := (Question.nanConv .f64 b).cut (w.tape w.drawn (.nanConv .f64 b))

theorem qnan_nan (b : Nat) (w : World) : nan .f64 (qnan b w) = true := (cut_nanConv .f64 b _).none
theorem qnan_lt (b : Nat) (w : World) : qnan b w < 2 ^ FloatKind.f64.format.width := (cut_nanConv .f64 b _).lt

theorem decode_num {k : FloatKind} {b : Nat} (h : nan k b = false) : (k.decode b).isNaN = false := h

theorem run_up_nan {P : Program} (src dst : TypeId) (us : P.underlying src = some (.float .f32)) (ud : P.underlying dst = some (.float .f64)) {b : Nat} (h : nan .f32 b = true) (w : World) :
    (convert src dst (.float .f32 b)).run P w = .ok (.float .f64 (qnan b w)) w.drew := by
  obtain ⟨s, t, e⟩ := read_nan h
  have e' : FloatKind.f32.decode b = .nan s t := e
  simp [convert, run_underlying us, run_underlying ud, Conv.floatToFloat, e', Question.forced, qnan]

theorem run_up_num {P : Program} (src dst : TypeId) (us : P.underlying src = some (.float .f32)) (ud : P.underlying dst = some (.float .f64)) {b : Nat} (h : nan .f32 b = false)
    (hi : ∀ s m e, FloatKind.f32.decode b = .number s m e → (FloatKind.f64.decode (FloatKind.f64.encode (.number s m e))).isInfinity = false) (w : World) :
    (convert src dst (.float .f32 b)).run P w = .ok (.float .f64 (FloatKind.f64.encode (FloatKind.f32.decode b))) w := by
  have hn := decode_num h
  cases e : FloatKind.f32.decode b with
  | nan s t => rw [e] at hn; simp [Ieee.Datum.isNaN] at hn
  | infinity s => simp [convert, run_underlying us, run_underlying ud, Conv.floatToFloat, e]
  | number s m p => simp [convert, run_underlying us, run_underlying ud, Conv.floatToFloat, e, hi s m p e]

theorem run_conv_same {P : Program} (src dst : TypeId) (k : FloatKind) {u : TypeDesc} (us : P.underlying src = some u) (ud : P.underlying dst = some (.float k)) (b : Nat) (w : World) :
    (convert src dst (.float k b)).run P w = .ok (.float k b) w := by
  cases u <;> simp [convert, run_underlying us, run_underlying ud, Conv.floatToFloat]

theorem run_down_num {P : Program} (src dst : TypeId) (us : P.underlying src = some (.float .f64)) (ud : P.underlying dst = some (.float .f32)) {b : Nat} (h : nan .f64 b = false)
    (hi : over (some b) = false) (w : World) :
    (convert src dst (.float .f64 b)).run P w = .ok (.float .f32 (FloatKind.f32.encode (FloatKind.f64.decode b))) w := by
  have hn := decode_num h
  unfold over at hi
  cases e : FloatKind.f64.decode b with
  | nan s t => rw [e] at hn; simp [Ieee.Datum.isNaN] at hn
  | infinity s => simp [convert, run_underlying us, run_underlying ud, Conv.floatToFloat, e]
  | number s m p =>
    simp only [e] at hi
    simp [Ieee.Datum.isInfinity] at hi
    simp [convert, run_underlying us, run_underlying ud, Conv.floatToFloat, e, Ieee.Datum.isInfinity, hi]

theorem run_down_nan {P : Program} (src dst : TypeId) (us : P.underlying src = some (.float .f64)) (ud : P.underlying dst = some (.float .f32)) {b : Nat} (h : nan .f64 b = true) (w : World) :
    (convert src dst (.float .f64 b)).run P w = .ok (.float .f32 ((Question.nanConv .f32 b).cut (w.tape w.drawn (.nanConv .f32 b)))) w.drew := by
  obtain ⟨s, t, e⟩ := read_nan h
  have e' : FloatKind.f64.decode b = .nan s t := e
  simp [convert, run_underlying us, run_underlying ud, Conv.floatToFloat, e', Question.forced]

/-- 'float32(x)' of a number that is not too great. -/
theorem run_down {P : Program} (src dst : TypeId) (us : P.underlying src = some (.float .f64)) (ud : P.underlying dst = some (.float .f32)) {v : Option Nat} {b : Nat} (h : Rep .f64 v b)
    (hi : over v = false) (w : World) : ∃ r n, (convert src dst (.float .f64 b)).run P w = .ok (.float .f32 r) (w.drewN n) ∧ Rep .f32 (down v) r := by
  cases v with
  | none => exact ⟨_, 1, run_down_nan src dst us ud h.none w, cut_nanConv .f32 b _⟩
  | some c =>
    have hb := h.some
    subst hb
    refine ⟨_, 0, run_down_num src dst us ud h.2.2 hi w, rep_write .f32 _ (decode_num h.2.2)⟩

section
variable {P : Program} {w : World} {ops : Array Oper} {rest : List Oper} {o : Oper} {a : Act} {Q : Exit → Act → World → Prop}
theorem wpList_down (hg : o.guard = none) (x : Operand) (src dst : TypeId) (ho : o.op = .convert src dst x) (us : P.underlying src = some (.float .f64)) (ud : P.underlying dst = some (.float .f32))
    (b : Nat) (ex : a.eval x = .float .f64 b) {v : Option Nat} (hx : Rep .f64 v b) (hi : over v = false)
    (h : ∀ r n, Rep .f32 (down v) r → wpList P ops Q rest (a.put o.dst (.float .f32 r)) (w.drewN n)) : wpList P ops Q (o :: rest) a w := by
  refine wpList_plain hg fun K hK => ?_
  obtain ⟨r, n, hrun, hr⟩ := run_down (P := P) src dst us ud hx hi w
  unfold Oper.wp
  simp [execOp, ho, ex, hrun, Result.andThen]
  exact hK _ _ (h r n hr)
end
end Flo
end Go.Proofs.Ytpebdcimbdbbmaa
