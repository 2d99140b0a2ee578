/-
  The law's own copy of a scale, and its size. Conditions: the slices read as lists that are not too long.
-/
import Derived.Test.YtloffnamjgnkhaaEqI
namespace Go.Proofs.Ytloffnamjgnkhaa
open Go.RowKit Mem

theorem ret_i {a b : Int} (h : a = b) : Ending.returned (.int .i64 a) = .returned (.int .i64 b) := by rw [h]

/-- What is left of a number behind a list's length; -1 where it does not suffice. -/
def szi (left : Int) (n : Nat) : Int := if left < n then -1 else left - n

theorem szi_any (A : Option Addr) (n c : Nat) (left : Int) (h0 : 0 ≤ left) (h1 : left ≤ 1048576) (hn : n ≤ 9223372036854775807) (w : World) :
    Calls Try.prog 56 #[.slice A n c, .int .i64 left] w fun e w' => e = .returned (.int .i64 (szi left n)) ∧ w = w' := by
  by_cases h : left < (n : Int)
  · have HT := Lib.hid (show szi left n = -1 by unfold szi; rw [if_pos h])
    go_enter Try.func56, Try.ntmps56
    go_wp2
    go_ret
    exact ⟨ret_i HT.out.symm, rfl⟩
  · have HT := Lib.hid (show szi left n = left - n by unfold szi; rw [if_neg h])
    go_enter Try.func56, Try.ntmps56
    go_wp2
    go_ret
    exact ⟨ret_i HT.out.symm, rfl⟩

/-- What is left of a number behind a scale's size; -1 where it does not suffice. -/
def szv (left : Int) (n m : Nat) : Int := if left < n then -1 else if left - n < m then -1 else left - n - m

set_option maxHeartbeats 400000 in
theorem szs_any (A : Option Addr) (n c : Nat) (B : Option Addr) (m d : Nat) (left : Int) (h0 : 0 ≤ left) (h1 : left ≤ 1048576) (hn : n ≤ 9223372036854775807) (hm : m ≤ 9223372036854775807) (w : World) :
    Calls Try.prog 18 #[.agg #[.slice A n c, .slice B m d], .int .i64 left] w fun e w' => e = .returned (.int .i64 (szv left n m)) ∧ Kp [] w w' := by
  by_cases h : left < (n : Int)
  · have HT := Lib.hid (show szv left n m = -1 by unfold szv; rw [if_pos h])
    have HR := Lib.hid (show szi left n = -1 by unfold szi; rw [if_pos h])
    go_enter Try.func18, Try.ntmps18
    go_wp2_with fail
    refine (szi_any _ _ _ _ h0 h1 hn _).mono ?_
    rw [HR.out]
    rintro e w' ⟨rfl, rfl⟩
    go_wp2_with fail
    go_ret
    exact ⟨ret_i HT.out.symm, (Kp.refl _).alloc _⟩
  · have HR := Lib.hid (show szi left n = left - n by unfold szi; rw [if_neg h])
    have hl0 : 0 ≤ left - (n : Int) := by omega
    by_cases h2 : left - (n : Int) < (m : Int)
    · have HT := Lib.hid (show szv left n m = -1 by unfold szv; rw [if_neg h, if_pos h2])
      have HR2 := Lib.hid (show szi (left - n) m = -1 by unfold szi; rw [if_pos h2])
      go_enter Try.func18, Try.ntmps18
      go_wp2_with fail
      refine (szi_any _ _ _ _ h0 h1 hn _).mono ?_
      rw [HR.out]
      rintro e w' ⟨rfl, rfl⟩
      go_wp2_with fail
      refine (szi_any _ _ _ _ hl0 (by omega) hm _).mono ?_
      rw [HR2.out]
      rintro e w' ⟨rfl, rfl⟩
      go_wp2_with fail
      go_ret
      exact ⟨ret_i HT.out.symm, (Kp.refl _).alloc _⟩
    · have HT := Lib.hid (show szv left n m = left - n - m by unfold szv; rw [if_neg h, if_neg h2])
      have HR2 := Lib.hid (show szi (left - n) m = left - n - m by unfold szi; rw [if_neg h2])
      have hl2 : 0 ≤ left - (n : Int) - m := by omega
      go_enter Try.func18, Try.ntmps18
      go_wp2_with fail
      refine (szi_any _ _ _ _ h0 h1 hn _).mono ?_
      rw [HR.out]
      rintro e w' ⟨rfl, rfl⟩
      go_wp2_with fail
      refine (szi_any _ _ _ _ hl0 (by omega) hm _).mono ?_
      rw [HR2.out]
      rintro e w' ⟨rfl, rfl⟩
      go_wp2_with fail
      go_ret
      exact ⟨ret_i HT.out.symm, (Kp.refl _).alloc _⟩

/-- The value is a scale of two blocks of its own from number B on, that hold the two lists. -/
def OwnScale (B : Nat) (bs rs : List Int) (v : Value) (w : World) : Prop :=
  ∃ g1 g2, v = .agg #[.slice (some ⟨g1, 0, none⟩) bs.length bs.length, .slice (some ⟨g2, 0, none⟩) rs.length rs.length] ∧ B ≤ g1 ∧ g1 < g2 ∧ Row w g1 2 (valsI bs) ∧ Row w g2 2 (valsI rs)

set_option maxHeartbeats 400000 in
theorem tos_any (A : Option Addr) (n c : Nat) (bs : List Int) (B : Option Addr) (m d : Nat) (rs : List Int) (w : World) (h : Sl w A n (valsI bs)) (h2 : Sl w B m (valsI rs)) (hn : n ≤ 1048576) (hm : m ≤ 1048576) :
    Calls Try.prog 20 #[.agg #[.slice A n c, .slice B m d]] w fun e w' => ∃ v, e = .returned v ∧ Kp [] w w' ∧ OwnScale w.heap.size bs rs v w' := by
  have e1 : n = bs.length := by rw [← valsI_len, h.len]
  have e2 : m = rs.length := by rw [← valsI_len, h2.len]
  subst e1
  subst e2
  have HA := Lib.hid h
  have HB := Lib.hid h2
  clear h h2
  go_enter Try.func20, Try.ntmps20
  go_wp2_with fail
  refine (to_anyI _ _ _ bs _ (by exact ((HA.out.alloc _).alloc _).alloc _) hn).mono ?_
  rintro e w' ⟨rfl, rfl⟩
  go_wp2_with fail
  refine (to_anyI _ _ _ rs _ (by exact (((HB.out.alloc _).alloc _).alloc _).alloc _) hm).mono ?_
  rintro e w' ⟨rfl, rfl⟩
  go_wp2_with fail
  refine bodyPost_ret (v := .agg #[.slice (some ⟨w.heap.size + 1 + 1 + 1, 0, none⟩) bs.length bs.length, .slice (some ⟨w.heap.size + 1 + 1 + 1 + 1, 0, none⟩) rs.length rs.length]) (by simp [results, Try.results20, go_sem]) rfl ⟨_, rfl, ?_, ?_⟩
  · exact (((((Kp.refl _).alloc _).alloc _).alloc _).alloc _).alloc _
  · refine ⟨_, _, rfl, by omega, by omega, ?_, ?_⟩
    · exact Row.kp (by simpa using Row.new (((w.alloc _).alloc _).alloc _) 2 (valsI bs)) ((Kp.refl _).alloc _)
    · simpa using Row.new ((((w.alloc _).alloc _).alloc _).alloc _) 2 (valsI rs)
end Go.Proofs.Ytloffnamjgnkhaa
