/-
  More quick steps on floats: comparisons, gaps, widening and narrowing. Conditions: those that each theorem names.
-/
import Derived.Test.YtpebdcimbdbbmaaFst
namespace Go.Proofs.Ytpebdcimbdbbmaa
namespace Flo
open Go

/-- On with a number, if there is one. -/
def fb (v : Option Nat) (f : Nat → Bool) : Bool :=
  match v with
  | none => false
  | some 0 => f 0
  | some (m + 1) => f (Nat.succ m)
theorem fb_some (c : Nat) (f : Nat → Bool) : fb (some c) f = f c := by cases c <;> rfl
theorem fb_eq {v : Option Nat} {f : Nat → Bool} (h : fb v f = true) : ∃ c, v = some c ∧ f c = true := by
  cases v with
  | none => cases h
  | some c => exact ⟨c, rfl, (fb_some c f).symm.trans h⟩
def fnB (n : Nat) (f : Nat → Bool) : Bool :=
  match n with
  | 0 => f 0
  | m + 1 => f (Nat.succ m)
theorem fnB_eq (n : Nat) (f : Nat → Bool) : fnB n f = f n := by cases n <;> rfl
/-- Is this the number? -/
def isQ (o : Option Nat) (N : Nat) : Bool := match o with
  | none => false
  | some M => Nat.beq M N
theorem isQ_is {o : Option Nat} {N : Nat} (h : isQ o N = true) : o = some N := by
  cases o with
  | none => cases h
  | some M => rw [Nat.eq_of_beq_eq_true h]

/-! ### Comparisons -/
def natQ (x y : Nat) (f : Ordering → Bool) : Bool := match Nat.beq x y with
  | true => f .eq
  | false => match Nat.ble x y with
    | true => f .lt
    | false => f .gt
def cmpQ (a b : Nat) (f : Ordering → Bool) : Bool :=
  fnB (Nat.mod a 9223372036854775808) fun x => match Nat.ble 9218868437227405312 x with
  | true => false
  | false => fnB (Nat.mod b 9223372036854775808) fun y => match Nat.ble 9218868437227405312 y with
    | true => false
    | false => match Nat.beq (Nat.mod (Nat.div a 9223372036854775808) 2) 1 with
      | false => (match Nat.beq (Nat.mod (Nat.div b 9223372036854775808) 2) 1 with
        | false => natQ x y f
        | true => (match Nat.add x y with
          | 0 => f .eq
          | _ + 1 => f .gt))
      | true => (match Nat.beq (Nat.mod (Nat.div b 9223372036854775808) 2) 1 with
        | false => (match Nat.add x y with
          | 0 => f .eq
          | _ + 1 => f .lt)
        | true => natQ y x f)
theorem natQ_is {x y : Nat} {f : Ordering → Bool} (h : natQ x y f = true) : (x = y ∧ f .eq = true) ∨ (x < y ∧ f .lt = true) ∨ (y < x ∧ f .gt = true) := by
  unfold natQ at h
  cases h1 : Nat.beq x y <;> rw [h1] at h
  · have hne := Nat.ne_of_beq_eq_false h1
    simp only at h
    cases h2 : Nat.ble x y <;> rw [h2] at h
    · exact .inr (.inr ⟨ble_lt h2, h⟩)
    · have := Nat.le_of_ble_eq_true h2
      exact .inr (.inl ⟨by omega, h⟩)
  · exact .inl ⟨Nat.eq_of_beq_eq_true h1, h⟩
theorem mg_zero (B : Nat) (hB : 0 < B) : mg B 0 = 0 := by unfold mg; rw [if_pos hB]
theorem mg_pos {B r : Nat} (hB : 0 < B) (h : 0 < r) : 0 < mg B r := by
  have := mg_lt hB h
  rwa [mg_zero B hB] at this
theorem cmpQ_is {a b : Nat} {f : Ordering → Bool} (h : cmpQ a b f = true) : ∃ o, FloatKind.f64.format.order a b = some o ∧ f o = true := by
  unfold cmpQ at h
  rw [fnB_eq] at h
  have e : FloatKind.f64.format.signWeight = 9223372036854775808 := fm64.hS
  have ra : Nat.mod a 9223372036854775808 = rg .f64 a := by unfold rg; rw [e]; rfl
  have rb : Nat.mod b 9223372036854775808 = rg .f64 b := by unfold rg; rw [e]; rfl
  have sa : Nat.beq (Nat.mod (Nat.div a 9223372036854775808) 2) 1 = sg .f64 a := by unfold sg; rw [e]; exact (eqb _ _).symm
  have sb : Nat.beq (Nat.mod (Nat.div b 9223372036854775808) 2) 1 = sg .f64 b := by unfold sg; rw [e]; exact (eqb _ _).symm
  rw [ra] at h
  cases h1 : Nat.ble 9218868437227405312 (rg .f64 a) <;> rw [h1] at h
  · simp only [fnB_eq] at h
    rw [rb, sa, sb] at h
    cases h2 : Nat.ble 9218868437227405312 (rg .f64 b) <;> rw [h2] at h
    · have h1 := ble_lt h1
      have h2 := ble_lt h2
      have na := (not_nan_iff .f64 a).2 (by rw [fm64.hI]; omega)
      have nb := (not_nan_iff .f64 b).2 (by rw [fm64.hI]; omega)
      rw [order_sv .f64 a b na nb, cmp_int]
      unfold sv
      have hB := binade_pos .f64
      generalize FloatKind.f64.format.binade = B at hB ⊢
      generalize rg .f64 a = x at h ⊢
      generalize rg .f64 b = y at h ⊢
      cases hs : sg .f64 a <;> cases ht : sg .f64 b <;> rw [hs, ht] at h
      · simp only [Bool.false_eq_true, if_false]
        rcases natQ_is h with ⟨g, h⟩ | ⟨g, h⟩ | ⟨g, h⟩
        · exact ⟨.eq, by subst g; rw [if_neg (by omega), if_pos rfl], h⟩
        · have := mg_lt hB g
          exact ⟨.lt, by rw [if_pos (by omega)], h⟩
        · have := mg_lt hB g
          exact ⟨.gt, by rw [if_neg (by omega), if_neg (by omega)], h⟩
      · simp only [Bool.false_eq_true, if_false, if_true]
        simp only at h
        cases hz : Nat.add x y with
        | zero =>
          rw [hz] at h
          obtain ⟨rfl, rfl⟩ : x = 0 ∧ y = 0 := by have : x + y = 0 := hz; omega
          exact ⟨.eq, by rw [mg_zero B hB, if_neg (by omega), if_pos (by omega)], h⟩
        | succ k =>
          rw [hz] at h
          have hz : x + y = k + 1 := hz
          refine ⟨.gt, ?_, h⟩
          rcases (by omega : 0 < x ∨ 0 < y) with g | g
          · have := mg_pos hB g
            rw [if_neg (by omega), if_neg (by omega)]
          · have := mg_pos hB g
            rw [if_neg (by omega), if_neg (by omega)]
      · simp only [Bool.false_eq_true, if_false, if_true]
        simp only at h
        cases hz : Nat.add x y with
        | zero =>
          rw [hz] at h
          obtain ⟨rfl, rfl⟩ : x = 0 ∧ y = 0 := by have : x + y = 0 := hz; omega
          exact ⟨.eq, by rw [mg_zero B hB, if_neg (by omega), if_pos (by omega)], h⟩
        | succ k =>
          rw [hz] at h
          have hz : x + y = k + 1 := hz
          refine ⟨.lt, ?_, h⟩
          rcases (by omega : 0 < x ∨ 0 < y) with g | g
          · have := mg_pos hB g
            rw [if_pos (by omega)]
          · have := mg_pos hB g
            rw [if_pos (by omega)]
      · simp only [if_true]
        rcases natQ_is h with ⟨g, h⟩ | ⟨g, h⟩ | ⟨g, h⟩
        · exact ⟨.eq, by subst g; rw [if_neg (by omega), if_pos rfl], h⟩
        · have := mg_lt hB g
          exact ⟨.lt, by rw [if_pos (by omega)], h⟩
        · have := mg_lt hB g
          exact ⟨.gt, by rw [if_neg (by omega), if_neg (by omega)], h⟩
    · cases h
  · cases h
def isLt (o : Ordering) : Bool := match o with
  | .lt => true
  | _ => false
def isLe (o : Ordering) : Bool := match o with
  | .gt => false
  | _ => true
theorem ltQ_is {a b : Nat} (h : cmpQ a b isLt = true) : cm .lss .f64 (some a) (some b) = true := by
  obtain ⟨o, h1, h2⟩ := cmpQ_is h
  show (FloatKind.f64.format.order a b == some .lt) = true
  rw [h1]
  cases o <;> first | rfl | (cases h2)
theorem leQ_is {a b : Nat} (h : cmpQ a b isLe = true) : cm .leq .f64 (some a) (some b) = true := by
  obtain ⟨o, h1, h2⟩ := cmpQ_is h
  show (FloatKind.f64.format.order a b == some .lt || FloatKind.f64.format.order a b == some .eq) = true
  rw [h1]
  cases o <;> first | rfl | (cases h2)
/-- The gap of two numbers. -/
def gapQ (a b : Nat) (f : Nat → Bool) : Bool := cmpQ a b fun o => match isLt o with
  | true => fb (sub6 b a) f
  | false => fb (sub6 a b) f
theorem gapQ_is {a b : Nat} {f : Nat → Bool} (h : gapQ a b f = true) :
    (cm .lss .f64 (some a) (some b) = true ∧ ∃ g, ar .sub .f64 (some b) (some a) = some g ∧ f g = true) ∨ (cm .lss .f64 (some a) (some b) = false ∧ ∃ g, ar .sub .f64 (some a) (some b) = some g ∧ f g = true) := by
  unfold gapQ at h
  obtain ⟨o, h1, h2⟩ := cmpQ_is h
  have e : cm .lss .f64 (some a) (some b) = isLt o := by
    show (FloatKind.f64.format.order a b == some .lt) = _
    rw [h1]
    cases o <;> rfl
  rw [e]
  cases hl : isLt o <;> rw [hl] at h2
  · obtain ⟨g, hg, h⟩ := fb_eq h2
    exact .inr ⟨rfl, g, sub6_is hg, h⟩
  · obtain ⟨g, hg, h⟩ := fb_eq h2
    exact .inl ⟨rfl, g, sub6_is hg, h⟩

/-! ### Widening and narrowing -/
theorem wrF_fin {S B I fb M : Nat} (hIS : I ≤ S) (hI : 0 < I) {g : Nat} {s : Bool} {mag pp r : Nat} (h : wrF S B I fb M g s mag pp = some r) : r % S < I := by
  have en : ∀ {q kept}, enF S B I M s q kept = some r → r % S < I := by
    intro q kept h
    unfold enF at h
    rw [fn_eq] at h
    generalize Nat.add (Nat.mul (Nat.sub q M) B) kept = c at h
    cases h1 : Nat.ble I c <;> rw [h1] at h
    · have h1 := ble_lt h1
      cases s
      · have h : c = r := by injection h
        subst h
        rwa [Nat.mod_eq_of_lt (by omega)]
      · have h : S + c = r := by injection h
        subst h
        rwa [Nat.add_mod_left, Nat.mod_eq_of_lt (by omega)]
    · cases h
  unfold wrF at h
  cases mag with
  | zero =>
    cases s
    · have h : 0 = r := by injection h
      subst h; rwa [Nat.zero_mod]
    · have h : S = r := by injection h
      subst h; rwa [Nat.mod_self]
  | succ m =>
    simp only at h
    obtain ⟨k, _, _, h⟩ := lo2G_some h
    rw [fn_eq] at h
    cases hM : Nat.ble M (Nat.add pp k) <;> rw [hM] at h
    · cases h
    · simp only at h
      cases hb : Nat.ble k fb <;> rw [hb] at h
      · unfold cutF at h
        simp only [fn_eq] at h
        split at h
        · exact en h
        · split at h
          · exact en h
          · exact en h
      · exact en h
def up6 (x : Nat) : Option Nat := decF 2147483648 8388608 2139095040 x fun s m i => wrF 9223372036854775808 4503599627370496 9218868437227405312 52 2200 23 s m (Nat.add i 3073)
theorem up6_is {x r : Nat} (h : up6 x = some r) : upw x = r := by
  obtain ⟨s, m, i, hx, h⟩ := decF_some fm32 h
  show FloatKind.f64.format.write (FloatKind.f32.format.read x) = r
  rw [hx]
  exact wrF_some fm64 (show (i : Int) - (149 : Nat) = ((i + 3073 : Nat) : Int) - 3 * (1074 : Nat) by omega) h
def dn3 (x : Nat) : Option Nat := decF 9223372036854775808 4503599627370496 9218868437227405312 x fun s m i => match Nat.ble 627 i with
  | false => (match m with
    | 0 => (match s with
      | false => some 0
      | true => some 2147483648)
    | _ + 1 => none)
  | true => wrF 2147483648 8388608 2139095040 23 321 52 s m (Nat.sub i 627)
theorem dn3_is {x r : Nat} (h : dn3 x = some r) : down (some x) = some r ∧ over (some x) = false ∧ nan .f32 r = false := by
  obtain ⟨s, m, i, hx, h⟩ := decF_some fm64 h
  have hw : r % 2147483648 < 2139095040 ∧ FloatKind.f32.format.write (FloatKind.f64.format.read x) = r := by
    rw [hx]
    cases hi : Nat.ble 627 i <;> rw [hi] at h
    · cases m with
      | zero =>
        rw [write_zero fm32]
        cases s
        · have h : 0 = r := by injection h
          subst h; exact ⟨by decide, rfl⟩
        · have h : 2147483648 = r := by injection h
          subst h; exact ⟨by decide, rfl⟩
      | succ m => cases h
    · have hi := Nat.le_of_ble_eq_true hi
      exact ⟨wrF_fin (by decide) (by decide) h, wrF_some fm32 (show (i : Int) - (1074 : Nat) = ((i - 627 : Nat) : Int) - 3 * (149 : Nat) by omega) h⟩
  obtain ⟨hr, hw⟩ := hw
  have hf : rg .f32 r < FloatKind.f32.format.infRung := by
    unfold rg
    rw [fm32.hS, fm32.hI]
    exact hr
  refine ⟨congrArg some hw, ?_, (not_nan_iff .f32 r).2 (Nat.le_of_lt hf)⟩
  obtain ⟨m2, e2, h2, _⟩ := read_num .f32 r hf
  show (!(FloatKind.f64.format.read x).isInfinity && (FloatKind.f32.format.read (FloatKind.f32.format.write (FloatKind.f64.format.read x))).isInfinity) = false
  rw [hw, h2]
  simp [Ieee.Datum.isInfinity]
def add3 (x y : Nat) : Option Nat := adF 2147483648 8388608 2139095040 23 149 321 false (floatBits .add .f32 x y) x y
theorem add3_is {x y r : Nat} (h : add3 x y = some r) : ar .add .f32 (some x) (some y) = some r := by
  rcases adF_some fm32 h with h | h
  · exact h
  · exact h
end Flo
end Go.Proofs.Ytpebdcimbdbbmaa
