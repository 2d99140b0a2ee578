/-
  The operations on floats in plain steps on numbers, which the kernel reckons quickly; what they answer is what the model answers. Conditions: those that each theorem names.
-/
import Derived.Test.YtpebdcimbdbbmaaVal
namespace Go.Proofs.Ytpebdcimbdbbmaa
namespace Flo
open Go
/-- On with a number that is reckoned. -/
def fn (n : Nat) (f : Nat → Option Nat) : Option Nat :=
  match n with
  | 0 => f 0
  | m + 1 => f (Nat.succ m)
theorem fn_eq (n : Nat) (f : Nat → Option Nat) : fn n f = f n := by cases n <;> rfl
/-- The last place of a number, sought and looked at. -/
def stF (n b k : Nat) (f : Nat → Option Nat) : Option Nat :=
  fn (Nat.add k b) fun c => match Nat.ble (Nat.shiftLeft 1 c) n with
    | true => f c
    | false => f k
def lo2F (n : Nat) (f : Nat → Option Nat) : Option Nat :=
  stF n 64 0 fun k => stF n 32 k fun k => stF n 16 k fun k => stF n 8 k fun k => stF n 4 k fun k => stF n 2 k fun k => stF n 1 k fun k =>
  match Nat.ble (Nat.shiftLeft 1 k) n with
  | false => none
  | true => match Nat.ble (Nat.shiftLeft 1 (Nat.succ k)) n with
    | true => none
    | false => f k
def lo2G (h n : Nat) (f : Nat → Option Nat) : Option Nat :=
  match Nat.ble (Nat.shiftLeft 1 h) n with
  | false => lo2F n f
  | true => match Nat.ble (Nat.shiftLeft 1 (Nat.succ h)) n with
    | false => f h
    | true => match Nat.ble (Nat.shiftLeft 1 (Nat.succ (Nat.succ h))) n with
      | false => f (Nat.succ h)
      | true => lo2F n f
theorem stF_some {n b k : Nat} {f : Nat → Option Nat} {r : Nat} (h : stF n b k f = some r) : ∃ c, f c = some r := by
  unfold stF at h
  rw [fn_eq] at h
  cases hb : Nat.ble (Nat.shiftLeft 1 (Nat.add k b)) n <;> rw [hb] at h <;> exact ⟨_, h⟩
theorem sh_le {k n : Nat} (h : Nat.ble (Nat.shiftLeft 1 k) n = true) : 2 ^ k ≤ n := by
  have := Nat.le_of_ble_eq_true h
  rwa [show Nat.shiftLeft 1 k = 2 ^ k from Nat.one_shiftLeft k] at this
theorem ble_lt {a b : Nat} (h : Nat.ble a b = false) : b < a := by
  rcases Nat.lt_or_ge b a with g | g
  · exact g
  · rw [Nat.ble_eq_true_of_le g] at h; cases h
theorem sh_lt {k n : Nat} (h : Nat.ble (Nat.shiftLeft 1 k) n = false) : n < 2 ^ k := by
  have := ble_lt h
  rwa [show Nat.shiftLeft 1 k = 2 ^ k from Nat.one_shiftLeft k] at this
theorem eqb (a b : Nat) : (a == b) = Nat.beq a b := by
  cases h : Nat.beq a b
  · exact beq_false_of_ne (Nat.ne_of_beq_eq_false h)
  · rw [Nat.eq_of_beq_eq_true h]; exact beq_self_eq_true b
theorem lo2F_some {n : Nat} {f : Nat → Option Nat} {r : Nat} (h : lo2F n f = some r) : ∃ k, 2 ^ k ≤ n ∧ n < 2 ^ (k + 1) ∧ f k = some r := by
  unfold lo2F at h
  obtain ⟨_, h⟩ := stF_some h
  obtain ⟨_, h⟩ := stF_some h
  obtain ⟨_, h⟩ := stF_some h
  obtain ⟨_, h⟩ := stF_some h
  obtain ⟨_, h⟩ := stF_some h
  obtain ⟨_, h⟩ := stF_some h
  obtain ⟨k, h⟩ := stF_some h
  cases h1 : Nat.ble (Nat.shiftLeft 1 k) n <;> rw [h1] at h
  · cases h
  · cases h2 : Nat.ble (Nat.shiftLeft 1 (Nat.succ k)) n <;> rw [h2] at h
    · exact ⟨k, sh_le h1, sh_lt h2, h⟩
    · cases h
theorem lo2G_some {g n : Nat} {f : Nat → Option Nat} {r : Nat} (h : lo2G g n f = some r) : ∃ k, 2 ^ k ≤ n ∧ n < 2 ^ (k + 1) ∧ f k = some r := by
  unfold lo2G at h
  cases h1 : Nat.ble (Nat.shiftLeft 1 g) n <;> rw [h1] at h
  · exact lo2F_some h
  · cases h2 : Nat.ble (Nat.shiftLeft 1 (Nat.succ g)) n <;> rw [h2] at h
    · exact ⟨g, sh_le h1, sh_lt h2, h⟩
    · cases h3 : Nat.ble (Nat.shiftLeft 1 (Nat.succ (Nat.succ g))) n <;> rw [h3] at h
      · exact ⟨g + 1, sh_le h2, sh_lt h3, h⟩
      · exact lo2F_some h
/-- A number without its last places, to the nearest. -/
def cutF (n drop : Nat) (f : Nat → Option Nat) : Option Nat :=
  fn (Nat.shiftLeft 1 drop) fun gap => fn (Nat.div n gap) fun low => fn (Nat.mul 2 (Nat.mod n gap)) fun rest =>
    match Nat.ble rest gap with
    | false => f (Nat.succ low)
    | true => match Nat.beq rest gap with
      | false => f low
      | true => f (Nat.add low (Nat.mod low 2))
theorem cutF_some {n d : Nat} {f : Nat → Option Nat} {r : Nat} (s : Bool) (hd : d ≤ n.log2 + 2) (h : cutF n d f = some r) : f (Ieee.Toward.even.cut s n d) = some r := by
  unfold cutF at h
  simp only [fn_eq] at h
  unfold Ieee.Toward.cut
  simp only [Nat.min_eq_left hd]
  have e1 : Nat.shiftLeft 1 d = 1 <<< d := rfl
  have e2 : Nat.div n (1 <<< d) = n / 1 <<< d := rfl
  have e3 : Nat.mul 2 (Nat.mod n (1 <<< d)) = 2 * (n % 1 <<< d) := rfl
  rw [e1, e2, e3] at h
  generalize (1 <<< d) = gap at h ⊢
  generalize n / gap = low at h ⊢
  generalize 2 * (n % gap) = rest at h ⊢
  cases h1 : Nat.ble rest gap <;> rw [h1] at h
  · have := ble_lt h1
    rw [show decide (gap < rest) = true from decide_eq_true this]
    exact h
  · have h1 := Nat.le_of_ble_eq_true h1
    rw [show decide (gap < rest) = false from decide_eq_false (by omega), Bool.false_or]
    cases h2 : Nat.beq rest gap <;> rw [h2] at h
    · have : gap ≠ rest := fun e => Nat.ne_of_beq_eq_false h2 e.symm
      rw [show (gap == rest) = false from beq_false_of_ne this]
      exact h
    · have := Nat.eq_of_beq_eq_true h2
      subst this
      rw [show (rest == rest) = true from beq_self_eq_true rest, Bool.true_and]
      rw [show (low % 2 == 1).toNat = low % 2 from by
        rcases (by omega : low % 2 = 0 ∨ low % 2 = 1) with e | e <;> rw [e] <;> rfl]
      exact h

/-- A format in numbers: what the sign weighs, a binade, infinity's rung, the fraction's bits, the least place. -/
structure Fm (F : Ieee.Format) (S B I fb L M : Nat) : Prop where
  hS : F.signWeight = S
  hB : F.binade = B
  hI : F.infRung = I
  hf : F.fractionBits = fb
  hL : F.leastPlace = -(L : Int)
  hM : M = L + L + fb
  hP : B = 2 ^ fb
theorem fm64 : Fm FloatKind.f64.format 9223372036854775808 4503599627370496 9218868437227405312 52 1074 2200 := by
  constructor <;> decide +kernel
theorem fm32 : Fm FloatKind.f32.format 2147483648 8388608 2139095040 23 149 321 := by
  constructor <;> decide +kernel
section
variable (S B I fb L M : Nat)
def enF (s : Bool) (q kept : Nat) : Option Nat :=
  fn (Nat.add (Nat.mul (Nat.sub q M) B) kept) fun g =>
    match Nat.ble I g with
    | true => none
    | false => match s with
      | false => some g
      | true => some (Nat.add S g)
/-- The word of a number of a place (places are counted from three times the least place); a guess of its last place. -/
def wrF (g : Nat) (s : Bool) (mag pp : Nat) : Option Nat :=
  match mag with
  | 0 => match s with
    | false => some 0
    | true => some S
  | m + 1 => lo2G g (Nat.succ m) fun k => fn (Nat.add pp k) fun q => match Nat.ble M q with
    | false => none
    | true => match Nat.ble k fb with
      | true => enF S B I M s q (Nat.shiftLeft (Nat.succ m) (Nat.sub fb k))
      | false => cutF (Nat.succ m) (Nat.sub k fb) fun kept => enF S B I M s q kept
/-- On with a number's parts. -/
def decF (x : Nat) (k : Bool → Nat → Nat → Option Nat) : Option Nat :=
  fn (Nat.mod x S) fun g => match Nat.ble I g with
    | true => none
    | false => fn (Nat.div g B) fun e => match e with
      | 0 => k (Nat.beq (Nat.mod (Nat.div x S) 2) 1) g 0
      | e + 1 => fn (Nat.add B (Nat.mod g B)) fun m => k (Nat.beq (Nat.mod (Nat.div x S) 2) 1) m e
def xorF (s t : Bool) : Bool := match s with
  | true => (match t with
    | true => false
    | false => true)
  | false => t
theorem xorF_eq (s t : Bool) : xorF s t = (s ^^ t) := by cases s <;> cases t <;> rfl
def mulF (x y : Nat) : Option Nat := decF S B I x fun s m i => decF S B I y fun t n j => fn (Nat.mul m n) fun p => wrF S B I fb M (Nat.add fb fb) (xorF s t) p (Nat.add (Nat.add i j) L)
def smF (g : Nat) (s : Bool) (a : Nat) (t : Bool) (b base : Nat) : Option Nat :=
  match xorF s t with
  | false => fn (Nat.add a b) fun c => wrF S B I fb M g s c base
  | true => match Nat.beq a b with
    | true => some 0
    | false => match Nat.ble a b with
      | true => fn (Nat.sub b a) fun c => wrF S B I fb M g t c base
      | false => fn (Nat.sub a b) fun c => wrF S B I fb M g s c base
end
theorem enF_some {F : Ieee.Format} {S B I fb L M : Nat} (H : Fm F S B I fb L M) {s : Bool} {q kept r : Nat} (h : enF S B I M s q kept = some r) : F.word s (min ((q - M) * B + kept) I) = r := by
  unfold enF at h
  rw [fn_eq] at h
  have e : Nat.add (Nat.mul (Nat.sub q M) B) kept = (q - M) * B + kept := rfl
  rw [e] at h
  generalize (q - M) * B + kept = g at h ⊢
  cases h1 : Nat.ble I g <;> rw [h1] at h
  · have := ble_lt h1
    rw [Nat.min_eq_left (by omega)]
    unfold Ieee.Format.word
    rw [H.hS]
    cases s
    · injection h
    · injection h
  · cases h
theorem wrF_some {F : Ieee.Format} {S B I fb L M : Nat} (H : Fm F S B I fb L M) {g : Nat} {s : Bool} {mag pp r : Nat} {p : Int} (hp : p = (pp : Int) - 3 * L) (h : wrF S B I fb M g s mag pp = some r) : F.write (.number s mag p) = r := by
  show F.nearest s mag p = r
  unfold Ieee.Format.nearest
  cases mag with
  | zero =>
    rw [if_pos rfl]
    unfold Ieee.Format.word
    rw [H.hS]
    cases s
    · injection h
    · injection h
  | succ m =>
    unfold wrF at h
    simp only at h
    obtain ⟨k, h1, h2, h⟩ := lo2G_some h
    rw [fn_eq] at h
    have hk : (m + 1).log2 = k := (Nat.log2_eq_iff (by omega)).2 ⟨h1, h2⟩
    have e : Nat.add pp k = pp + k := rfl
    rw [e] at h
    cases hM : Nat.ble M (pp + k) <;> rw [hM] at h
    · cases h
    · have hM := Nat.le_of_ble_eq_true hM
      have hm := H.hM
      rw [if_neg (by omega)]
      simp only [hk, H.hf, H.hL, H.hB, H.hI]
      have hlast : max (p + (k : Int) - (fb : Int)) (-(L : Int)) = p + (k : Int) - (fb : Int) := by omega
      rw [hlast]
      have q1 : (p + (k : Int) - (fb : Int) - -(L : Int)).toNat = pp + k - M := by omega
      rw [q1]
      cases hb : Nat.ble k fb <;> rw [hb] at h
      · have hb := ble_lt hb
        have q2 : (p - (p + (k : Int) - (fb : Int))).toNat = 0 := by omega
        have q3 : (p + (k : Int) - (fb : Int) - p).toNat = k - fb := by omega
        rw [q2, q3, Nat.shiftLeft_zero]
        exact enF_some H (cutF_some s (by rw [hk]; omega) h)
      · have hb := Nat.le_of_ble_eq_true hb
        have q2 : (p - (p + (k : Int) - (fb : Int))).toNat = fb - k := by omega
        have q3 : (p + (k : Int) - (fb : Int) - p).toNat = 0 := by omega
        rw [q2, q3, cut_zero]
        exact enF_some H h
theorem decF_some {F : Ieee.Format} {S B I fb L M : Nat} (H : Fm F S B I fb L M) {x : Nat} {f : Bool → Nat → Nat → Option Nat} {r : Nat} (h : decF S B I x f = some r) : ∃ (s : Bool) (m i : Nat), F.read x = .number s m ((i : Int) - L) ∧ f s m i = some r := by
  unfold decF at h
  rw [fn_eq] at h
  have e : Nat.mod x S = x % S := rfl
  rw [e] at h
  have hpos : 0 < B := by rw [H.hP]; exact Nat.two_pow_pos _
  have es : (x / S % 2 == 1) = Nat.beq (Nat.mod (Nat.div x S) 2) 1 := eqb _ _
  unfold Ieee.Format.read
  simp only [H.hS, H.hB, H.hI, H.hL]
  rw [es]
  generalize Nat.beq (Nat.mod (Nat.div x S) 2) 1 = s at h ⊢
  generalize x % S = g at h ⊢
  cases h1 : Nat.ble I g <;> rw [h1] at h
  · have h1 := ble_lt h1
    simp only [fn_eq] at h
    have e2 : Nat.div g B = g / B := rfl
    rw [e2] at h
    cases h2 : g / B with
    | zero =>
      rw [h2] at h
      have : g < B := (Nat.div_eq_zero_iff_lt hpos).1 h2
      rw [if_pos this]
      exact ⟨s, g, 0, by rw [show ((0 : Nat) : Int) - (L : Int) = -(L : Int) by omega], h⟩
    | succ e =>
      rw [h2] at h
      have : ¬g < B := fun hl => by rw [Nat.div_eq_of_lt hl] at h2; cases h2
      rw [if_neg this, if_pos h1]
      exact ⟨s, B + g % B, e, by rw [show -(L : Int) + ((e + 1 - 1 : Nat) : Int) = (e : Int) - (L : Int) by omega], h⟩
  · cases h
theorem mulF_some {F : Ieee.Format} {S B I fb L M : Nat} (H : Fm F S B I fb L M) {x y r : Nat} (h : mulF S B I fb L M x y = some r) : F.mul x y = some r := by
  unfold mulF at h
  obtain ⟨s, m, i, hx, h⟩ := decF_some H h
  obtain ⟨t, n, j, hy, h⟩ := decF_some H h
  rw [fn_eq, xorF_eq] at h
  unfold Ieee.Format.mul
  rw [hx, hy]
  exact congrArg some (wrF_some H (show (i : Int) - L + ((j : Int) - L) = ((i + j + L : Nat) : Int) - 3 * L by omega) h)
theorem smF_some {F : Ieee.Format} {S B I fb L M : Nat} (H : Fm F S B I fb L M) {g : Nat} {s : Bool} {a : Nat} {t : Bool} {b base r : Nat} (ha : 0 < a) (hb : 0 < b) {p : Int} (hp : p = (base : Int) - 3 * L) (h : smF S B I fb M g s a t b base = some r) :
    F.write (.number (if (if s then -(a : Int) else (a : Int)) + (if t then -(b : Int) else (b : Int)) = 0 then s && t else decide ((if s then -(a : Int) else (a : Int)) + (if t then -(b : Int) else (b : Int)) < 0)) ((if s then -(a : Int) else (a : Int)) + (if t then -(b : Int) else (b : Int))).natAbs p) = r := by
  unfold smF at h
  rw [xorF_eq] at h
  have e1 : Nat.add a b = a + b := rfl
  have e2 : Nat.sub a b = a - b := rfl
  have e3 : Nat.sub b a = b - a := rfl
  have ad : ∀ {s}, fn (Nat.add a b) (fun c => wrF S B I fb M g s c base) = some r → F.write (.number s (a + b) p) = r := by
    intro s h
    rw [fn_eq] at h
    exact wrF_some H hp h
  have un : ∀ {s t}, (match Nat.beq a b with | true => some 0 | false => match Nat.ble a b with | true => fn (Nat.sub b a) fun c => wrF S B I fb M g t c base | false => fn (Nat.sub a b) fun c => wrF S B I fb M g s c base) = some r →
      (a = b ∧ r = 0) ∨ (a < b ∧ F.write (.number t (b - a) p) = r) ∨ (b < a ∧ F.write (.number s (a - b) p) = r) := by
    intro s t h
    cases h1 : Nat.beq a b <;> rw [h1] at h
    · have hne : a ≠ b := Nat.ne_of_beq_eq_false h1
      cases h2 : Nat.ble a b <;> rw [h2] at h
      · have := ble_lt h2
        simp only [fn_eq] at h
        exact .inr (.inr ⟨this, wrF_some H hp h⟩)
      · have := Nat.le_of_ble_eq_true h2
        simp only [fn_eq] at h
        exact .inr (.inl ⟨by omega, wrF_some H hp h⟩)
    · injection h with h
      exact .inl ⟨Nat.eq_of_beq_eq_true h1, h.symm⟩
  have z : ∀ q, F.write (.number false 0 q) = 0 := fun q => by
    show F.nearest false 0 q = 0
    unfold Ieee.Format.nearest
    rw [if_pos rfl]; rfl
  cases s <;> cases t
  · have := ad h
    simp only [Bool.false_eq_true, if_false]
    rw [if_neg (by omega), show decide ((a : Int) + (b : Int) < 0) = false from decide_eq_false (by omega), show ((a : Int) + (b : Int)).natAbs = a + b by omega]
    exact this
  · simp only [Bool.false_eq_true, if_false, if_true]
    rcases un h with ⟨g1, g2⟩ | ⟨g1, g2⟩ | ⟨g1, g2⟩
    · rw [if_pos (by omega), show ((a : Int) + -(b : Int)).natAbs = 0 by omega, g2]
      exact z p
    · rw [if_neg (by omega), show decide ((a : Int) + -(b : Int) < 0) = true from decide_eq_true (by omega), show ((a : Int) + -(b : Int)).natAbs = b - a by omega]
      exact g2
    · rw [if_neg (by omega), show decide ((a : Int) + -(b : Int) < 0) = false from decide_eq_false (by omega), show ((a : Int) + -(b : Int)).natAbs = a - b by omega]
      exact g2
  · simp only [Bool.false_eq_true, if_false, if_true]
    rcases un h with ⟨g1, g2⟩ | ⟨g1, g2⟩ | ⟨g1, g2⟩
    · rw [if_pos (by omega), show (-(a : Int) + (b : Int)).natAbs = 0 by omega, g2]
      exact z p
    · rw [if_neg (by omega), show decide (-(a : Int) + (b : Int) < 0) = false from decide_eq_false (by omega), show (-(a : Int) + (b : Int)).natAbs = b - a by omega]
      exact g2
    · rw [if_neg (by omega), show decide (-(a : Int) + (b : Int) < 0) = true from decide_eq_true (by omega), show (-(a : Int) + (b : Int)).natAbs = a - b by omega]
      exact g2
  · have := ad h
    simp only [if_true]
    rw [if_neg (by omega), show decide (-(a : Int) + -(b : Int) < 0) = true from decide_eq_true (by omega), show (-(a : Int) + -(b : Int)).natAbs = a + b by omega]
    exact this
section
variable (S B I fb L M : Nat)
/-- Sums and differences; where one is nought: z. -/
def adF (f : Bool) (z : Option Nat) (x y : Nat) : Option Nat := decF S B I x fun s m i => decF S B I y fun t n j =>
  match m with
  | 0 => z
  | m + 1 => match n with
    | 0 => z
    | n + 1 => match Nat.ble i j with
      | true => fn (Nat.sub j i) fun d => fn (Nat.shiftLeft (Nat.succ n) d) fun b => smF S B I fb M (Nat.add fb d) s (Nat.succ m) (xorF f t) b (Nat.add (Nat.add i L) L)
      | false => fn (Nat.sub i j) fun d => fn (Nat.shiftLeft (Nat.succ m) d) fun a => smF S B I fb M (Nat.add fb d) s a (xorF f t) (Nat.succ n) (Nat.add (Nat.add j L) L)
/-- On if the number has all its places. -/
def nrm (m : Nat) (f : Option Nat) : Option Nat :=
  match Nat.ble B m with
  | false => none
  | true => match Nat.ble (Nat.add B B) m with
    | true => none
    | false => f
def quF (x y : Nat) : Option Nat := decF S B I x fun s m i => decF S B I y fun t n j => nrm B n (match m with
  | 0 => (match xorF s t with
    | false => some 0
    | true => some S)
  | m + 1 => nrm B (Nat.succ m) (fn (Nat.shiftLeft (Nat.succ m) (Nat.add fb 2)) fun d =>
    fn (Nat.add (Nat.mul 2 (Nat.div d n)) (match Nat.mod d n with
      | 0 => 0
      | _ + 1 => 1)) fun p =>
    match Nat.ble (Nat.add j (Nat.add fb 3)) (Nat.add i (Nat.add (Nat.add L L) L)) with
    | false => none
    | true => wrF S B I fb M (Nat.add fb 2) (xorF s t) p (Nat.sub (Nat.add i (Nat.add (Nat.add L L) L)) (Nat.add j (Nat.add fb 3)))))
end
theorem adF_some {F : Ieee.Format} {S B I fb L M : Nat} (H : Fm F S B I fb L M) {f : Bool} {z : Option Nat} {x y r : Nat} (h : adF S B I fb L M f z x y = some r) :
    z = some r ∨ ((F.read x).sum (if f then (F.read y).opposite else F.read y)).map F.write = some r := by
  unfold adF at h
  obtain ⟨s, m, i, hx, h⟩ := decF_some H h
  obtain ⟨t, n, j, hy, h⟩ := decF_some H h
  cases m with
  | zero => exact .inl h
  | succ m =>
    cases n with
    | zero => exact .inl h
    | succ n =>
      right
      have hd : (if f then (F.read y).opposite else F.read y) = .number (f ^^ t) (n + 1) ((j : Int) - L) := by
        rw [hy]; cases f <;> cases t <;> rfl
      rw [hd, hx]
      simp only [fn_eq, xorF_eq] at h
      unfold Ieee.Datum.sum
      simp only [Option.map_some]
      cases hb : Nat.ble i j <;> rw [hb] at h
      · have hb := ble_lt hb
        have hm : min ((i : Int) - L) ((j : Int) - L) = (j : Int) - L := by omega
        rw [hm, show ((i : Int) - L - ((j : Int) - L)).toNat = i - j by omega, show ((j : Int) - L - ((j : Int) - L)).toNat = 0 by omega]
        unfold Ieee.signed
        rw [Nat.shiftLeft_zero]
        refine congrArg some (smF_some H ?_ (Nat.succ_pos n) (show (j : Int) - L = ((j + L + L : Nat) : Int) - 3 * L by omega) h)
        show 0 < (m + 1) <<< (i - j)
        rw [Nat.shiftLeft_eq]
        exact Nat.mul_pos (Nat.succ_pos m) (Nat.two_pow_pos _)
      · have hb := Nat.le_of_ble_eq_true hb
        have hm : min ((i : Int) - L) ((j : Int) - L) = (i : Int) - L := by omega
        rw [hm, show ((j : Int) - L - ((i : Int) - L)).toNat = j - i by omega, show ((i : Int) - L - ((i : Int) - L)).toNat = 0 by omega]
        unfold Ieee.signed
        rw [Nat.shiftLeft_zero]
        refine congrArg some (smF_some H (Nat.succ_pos m) ?_ (show (i : Int) - L = ((i + L + L : Nat) : Int) - 3 * L by omega) h)
        show 0 < (n + 1) <<< (j - i)
        rw [Nat.shiftLeft_eq]
        exact Nat.mul_pos (Nat.succ_pos n) (Nat.two_pow_pos _)
theorem nrm_some {B fb m : Nat} (hB : B = 2 ^ fb) {f : Option Nat} {r : Nat} (h : nrm B m f = some r) : m.log2 = fb ∧ m ≠ 0 ∧ f = some r := by
  unfold nrm at h
  have hp : 0 < 2 ^ fb := Nat.two_pow_pos _
  cases h1 : Nat.ble B m <;> rw [h1] at h
  · cases h
  · have h1 := Nat.le_of_ble_eq_true h1
    cases h2 : Nat.ble (Nat.add B B) m <;> rw [h2] at h
    · have h2 : m < B + B := ble_lt h2
      have h0 : m ≠ 0 := by omega
      exact ⟨(Nat.log2_eq_iff h0).2 ⟨by omega, by rw [Nat.pow_succ]; omega⟩, h0, h⟩
    · cases h
theorem write_zero {F : Ieee.Format} {S B I fb L M : Nat} (H : Fm F S B I fb L M) {s : Bool} {p : Int} : F.write (.number s 0 p) = if s then S else 0 := by
  show F.nearest s 0 p = _
  unfold Ieee.Format.nearest
  rw [if_pos rfl]
  unfold Ieee.Format.word
  rw [H.hS]; rfl
theorem quF_some {F : Ieee.Format} {S B I fb L M : Nat} (H : Fm F S B I fb L M) {x y r : Nat} (h : quF S B I fb L M x y = some r) : F.div x y = some r := by
  unfold quF at h
  obtain ⟨s, m, i, hx, h⟩ := decF_some H h
  obtain ⟨t, n, j, hy, h⟩ := decF_some H h
  obtain ⟨ln, n0, h⟩ := nrm_some H.hP h
  unfold Ieee.Format.div
  rw [hx, hy]
  unfold Ieee.Datum.quotient
  simp only
  rw [if_neg n0, H.hf, ln]
  cases m with
  | zero =>
    simp only [xorF_eq] at h
    simp only [Nat.zero_shiftLeft, Nat.zero_div, Nat.zero_mod, Option.map_some]
    refine congrArg some ?_
    show F.write (.number (s ^^ t) 0 _) = r
    rw [write_zero H]
    cases hst : (s ^^ t) <;> rw [hst] at h
    · injection h
    · injection h
  | succ m =>
    obtain ⟨lm, m0, h⟩ := nrm_some H.hP h
    rw [show Nat.succ m = m + 1 from rfl] at lm
    rw [lm, show fb + 2 + fb - fb = fb + 2 by omega]
    simp only [fn_eq, xorF_eq] at h
    simp only [Option.map_some]
    cases hb : Nat.ble (Nat.add j (Nat.add fb 3)) (Nat.add i (Nat.add (Nat.add L L) L)) <;> rw [hb] at h
    · cases h
    · have hb : j + (fb + 3) ≤ i + (L + L + L) := Nat.le_of_ble_eq_true hb
      refine congrArg some ?_
      have e0 : Nat.shiftLeft (Nat.succ m) (Nat.add fb 2) = (m + 1) <<< (fb + 2) := rfl
      rw [e0] at h
      generalize (m + 1) <<< (fb + 2) = d at h ⊢
      have e : Nat.add (Nat.mul 2 (Nat.div d n)) (match Nat.mod d n with | 0 => 0 | _ + 1 => 1) = 2 * (d / n) + (d % n != 0).toNat := by
        show 2 * (d / n) + (match d % n with | 0 => 0 | _ + 1 => 1) = _
        cases d % n <;> rfl
      refine wrF_some H (pp := i + (L + L + L) - (j + (fb + 3))) ?_ (e ▸ h)
      omega

/-! ### Both formats -/
def mul6 : Nat → Nat → Option Nat := mulF 9223372036854775808 4503599627370496 9218868437227405312 52 1074 2200
def quo6 : Nat → Nat → Option Nat := quF 9223372036854775808 4503599627370496 9218868437227405312 52 1074 2200
def add6 (x y : Nat) : Option Nat := adF 9223372036854775808 4503599627370496 9218868437227405312 52 1074 2200 false (floatBits .add .f64 x y) x y
def sub6 (x y : Nat) : Option Nat := adF 9223372036854775808 4503599627370496 9218868437227405312 52 1074 2200 true (floatBits .sub .f64 x y) x y
def mul3 : Nat → Nat → Option Nat := mulF 2147483648 8388608 2139095040 23 149 321
theorem mul6_is {x y r : Nat} (h : mul6 x y = some r) : ar .mul .f64 (some x) (some y) = some r := mulF_some fm64 h
theorem mul3_is {x y r : Nat} (h : mul3 x y = some r) : ar .mul .f32 (some x) (some y) = some r := mulF_some fm32 h
theorem quo6_is {x y r : Nat} (h : quo6 x y = some r) : ar .quo .f64 (some x) (some y) = some r := quF_some fm64 h
theorem add6_is {x y r : Nat} (h : add6 x y = some r) : ar .add .f64 (some x) (some y) = some r := by
  rcases adF_some fm64 h with h | h
  · exact h
  · exact h
theorem sub6_is {x y r : Nat} (h : sub6 x y = some r) : ar .sub .f64 (some x) (some y) = some r := by
  rcases adF_some fm64 h with h | h
  · exact h
  · exact h
end Flo
end Go.Proofs.Ytpebdcimbdbbmaa
