/-
  Are all numbers of a list in a range: the program's function, by the library's ContainsFunc and a closure. Conditions: the slice reads as a list that is not too long.
-/
import Derived.Test.YtmlocepflcfkmaaDoorEqJ
import Derived.Test.YtmlocepflcfkmaaDoorIn
namespace Go.Proofs.YtmlocepflcfkmaaDoor
set_option linter.unusedVariables false
set_option linter.unusedSimpArgs false
open Go.RowKit Mem

/-- The closure: is a number not in the range? -/
theorem clos_any (x lo hi : Int) (p q : Nat) (w : World) (hp : w.cell? ⟨p, 0, none⟩ = some (.int .i64 lo)) (hq : w.cell? ⟨q, 0, none⟩ = some (.int .i64 hi)) :
    Calls Tryd.prog 79 #[.int .i64 x, .pointer (some ⟨p, 0, none⟩), .pointer (some ⟨q, 0, none⟩)] w fun e w' => e = .returned (.bool (!inB x lo hi)) ∧ w = w' := by
  go_enter Tryd.func79, Tryd.ntmps79
  go_wp2_with (go_at_call 54; refine (in_impl _ _ _ _).mono ?_; rintro e w' ⟨rfl, rfl⟩)
  go_ret
  exact ⟨rfl, rfl⟩

/-- Is one of the numbers outside the range? -/
def outB (zs : List Int) (lo hi : Int) : Bool := zs.any fun z => !inB z lo hi
/-- None of the first k is. -/
def Ink (zs : List Int) (lo hi : Int) (k : Nat) : Prop := (zs.take k).any (fun z => !inB z lo hi) = false
/-- The index that is handed back. -/
def IdxPost (b : Bool) (w : World) (e : Ending) (w' : World) : Prop := ∃ r : Int, e = .returned (.int .i64 r) ∧ (b = true → 0 ≤ r) ∧ (b = false → r = -1) ∧ w = w'

section
variable {zs : List Int} {lo hi x : Int} {k : Nat}
theorem Ink.zero : Ink zs lo hi 0 := rfl
theorem Ink.succ (h : Ink zs lo hi k) (hx : Hid (zs[k]? = some x)) (hi' : inB x lo hi = true) : Ink zs lo hi (k + 1) := by
  unfold Ink at *
  rw [List.take_add_one, hx.out, List.any_append, h]
  simp [hi']
theorem out_yes (hx : Hid (zs[k]? = some x)) (hi' : inB x lo hi = false) : outB zs lo hi = true := by
  unfold outB
  rw [List.any_eq_true]
  exact ⟨x, List.mem_of_getElem? hx.out, by simp [hi']⟩
theorem Ink.all {n : Nat} (h : Ink zs lo hi n) (h1 : zs.length = n) : outB zs lo hi = false := by
  unfold Ink at h
  rw [List.take_of_length_le (by omega)] at h
  exact h
end

set_option maxHeartbeats 400000 in
theorem idx_any (A : Option Addr) (n c : Nat) (zs : List Int) (lo hi : Int) (p q : Nat) (w : World) (h : Sl w A n (valsI zs)) (hn : n ≤ 1048576) (hp : w.cell? ⟨p, 0, none⟩ = some (.int .i64 lo)) (hq : w.cell? ⟨q, 0, none⟩ = some (.int .i64 hi)) :
    Calls Tryd.prog 100 #[.slice A n c, .func (.func 79) #[] #[.pointer (some ⟨p, 0, none⟩), .pointer (some ⟨q, 0, none⟩)]] w (IdxPost (outB zs lo hi) w) := by
  have HA := Lib.hid h
  have HL := Lib.hid (show zs.length = n by rw [← valsI_len, h.len])
  clear h
  go_enter Tryd.func100, Tryd.ntmps100
  go_wp2
  go_loop [8] (fun i => ∃ k : Nat, k ≤ n ∧ i = .int .i64 k ∧ Ink zs lo hi k) (fun i => n - (intOf i).toNat)
  case atStart => exact ⟨0, Nat.zero_le _, rfl, Ink.zero⟩
  case round =>
    obtain ⟨k, hk, rfl, HE⟩ := hrel
    by_cases hlt : k < n
    · obtain ⟨b, off, x, rfl, hb, HX, hcx⟩ := slI_at HA.out hlt
      cases hx : inB x lo hi
      · have HF := Lib.hid (out_yes HX hx)
        go_wp2_with (go_at_call 79; refine (clos_any _ _ _ _ _ _ hp hq).mono ?_; rintro e w' ⟨rfl, rfl⟩)
        go_ret
        exact ⟨_, rfl, fun _ => by omega, (fun hh => by rw [HF.out] at hh; cases hh), rfl⟩
      · go_wp2_with (go_at_call 79; refine (clos_any _ _ _ _ _ _ hp hq).mono ?_; rintro e w' ⟨rfl, rfl⟩)
        go_round
        case rel => exact ⟨k + 1, by omega, by go_num, HE.succ HX hx⟩
        case measure => simp [intOf]; omega
    · obtain rfl : n = k := by omega
      have HF := Lib.hid (HE.all HL.out)
      go_wp2
      go_ret
      exact ⟨_, rfl, fun hh => (by rw [HF.out] at hh; cases hh), fun _ => rfl, rfl⟩

theorem has_any (A : Option Addr) (n c : Nat) (zs : List Int) (lo hi : Int) (p q : Nat) (w : World) (h : Sl w A n (valsI zs)) (hn : n ≤ 1048576) (hp : w.cell? ⟨p, 0, none⟩ = some (.int .i64 lo)) (hq : w.cell? ⟨q, 0, none⟩ = some (.int .i64 hi)) :
    Calls Tryd.prog 78 #[.slice A n c, .func (.func 79) #[] #[.pointer (some ⟨p, 0, none⟩), .pointer (some ⟨q, 0, none⟩)]] w fun e w' => e = .returned (.bool (outB zs lo hi)) ∧ w = w' := by
  cases ho : outB zs lo hi
  · go_enter Tryd.func78, Tryd.ntmps78
    go_wp2_with fail
    refine (idx_any A n c zs lo hi p q _ h hn hp hq).mono ?_
    rintro e w' ⟨r, rfl, _, h2, rfl⟩
    have hr := h2 ho
    subst hr
    clear h2
    go_wp2_with fail
    go_ret
    exact ⟨rfl, rfl⟩
  · go_enter Tryd.func78, Tryd.ntmps78
    go_wp2_with fail
    refine (idx_any A n c zs lo hi p q _ h hn hp hq).mono ?_
    rintro e w' ⟨r, rfl, h1, _, rfl⟩
    have hr := h1 ho
    clear h1
    go_wp2_with fail
    go_ret
    exact ⟨rfl, rfl⟩

theorem within_any (A : Option Addr) (n c : Nat) (zs : List Int) (lo hi : Int) (w : World) (h : Sl w A n (valsI zs)) (hn : n ≤ 1048576) :
    Calls Tryd.prog 64 #[.slice A n c, .int .i64 lo, .int .i64 hi] w fun e w' => e = .returned (.bool (!outB zs lo hi)) ∧ Kp [] w w' := by
  have HA := Lib.hid h
  clear h
  go_enter Tryd.func64, Tryd.ntmps64
  go_wp2_with fail
  refine (has_any A n c zs lo hi _ _ _ (by exact (HA.out.alloc _).alloc _) hn (by simp [go_sem]) (by simp [go_sem])).mono ?_
  rintro e w' ⟨rfl, rfl⟩
  go_wp2_with fail
  go_ret
  exact ⟨rfl, ((Kp.refl _).alloc _).alloc _⟩

/-- Has a list so many numbers, all of them in a range? -/
def cntB (zs : List Int) (a b : Nat) (lo hi : Int) : Bool := decide (a ≤ zs.length) && (decide (zs.length ≤ b) && !outB zs lo hi)

set_option maxHeartbeats 400000 in
theorem count_any (A : Option Addr) (n c : Nat) (zs : List Int) (a b : Nat) (lo hi : Int) (w : World) (h : Sl w A n (valsI zs)) (hn : n ≤ 1048576) (ha : a ≤ 1000) (hb : b ≤ 1000) :
    Calls Tryd.prog 46 #[.slice A n c, .int .i64 a, .int .i64 b, .int .i64 lo, .int .i64 hi] w fun e w' => e = .returned (.bool (cntB zs a b lo hi)) ∧ Kp [] w w' := by
  have HA := Lib.hid h
  have hl : zs.length = n := by rw [← valsI_len, h.len]
  clear h
  by_cases h1 : (a : Int) ≤ (n : Int)
  · by_cases h2 : (n : Int) ≤ (b : Int)
    · have HF := Lib.hid (show cntB zs a b lo hi = !outB zs lo hi by unfold cntB; rw [decide_eq_true (by omega), decide_eq_true (by omega)]; rfl)
      clear hl
      go_enter Tryd.func46, Tryd.ntmps46
      go_wp2_with fail
      refine (within_any A n c zs lo hi _ (by exact HA.out) hn).mono ?_
      rintro e w' ⟨rfl, hk⟩
      have HK := Lib.hid hk
      clear hk
      go_wp2_with fail
      go_ret
      exact ⟨ret_bool HF.out.symm, HK.out⟩
    · have HF := Lib.hid (show cntB zs a b lo hi = false by unfold cntB; rw [decide_eq_false (show ¬ zs.length ≤ b by omega)]; simp)
      clear hl
      go_enter Tryd.func46, Tryd.ntmps46
      go_wp2_with fail
      go_ret
      exact ⟨ret_bool HF.out.symm, Kp.refl _⟩
  · have HF := Lib.hid (show cntB zs a b lo hi = false by unfold cntB; rw [decide_eq_false (show ¬ a ≤ zs.length by omega)]; rfl)
    clear hl
    go_enter Tryd.func46, Tryd.ntmps46
    go_wp2_with fail
    go_ret
    exact ⟨ret_bool HF.out.symm, Kp.refl _⟩
end Go.Proofs.YtmlocepflcfkmaaDoor
