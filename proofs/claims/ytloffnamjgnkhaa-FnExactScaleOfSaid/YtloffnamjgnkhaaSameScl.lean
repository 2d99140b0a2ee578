/-
  Are two scales the same: the reference's, the program's and the law's functions. Conditions: the slices read as lists that are not too long.
-/
import Derived.Test.YtloffnamjgnkhaaScl
import Derived.Deep.RegionWith
namespace Go.Proofs.Ytloffnamjgnkhaa
open Go.RowKit Mem

/-- Are both lists equal? -/
def eqS (b1 r1 b2 r2 : List Int) : Bool := eqL b1 b2 && eqL r1 r2

section
variable (A : Option Addr) (n c : Nat) (b1 : List Int) (B : Option Addr) (m d : Nat) (r1 : List Int) (A2 : Option Addr) (n2 c2 : Nat) (b2 : List Int) (B2 : Option Addr) (m2 d2 : Nat) (r2 : List Int) (w : World)

set_option maxHeartbeats 400000 in
theorem same_low (p q : Nat) (hp0 : w.cell? ⟨p, 0, none⟩ = some (.slice A n c)) (hp1 : w.cell? ⟨p, 1, none⟩ = some (.slice B m d)) (hq0 : w.cell? ⟨q, 0, none⟩ = some (.slice A2 n2 c2)) (hq1 : w.cell? ⟨q, 1, none⟩ = some (.slice B2 m2 d2))
    (h1 : Sl w A n (valsI b1)) (h2 : Sl w B m (valsI r1)) (h3 : Sl w A2 n2 (valsI b2)) (h4 : Sl w B2 m2 (valsI r2)) (l1 : n ≤ 1048576) (l2 : m ≤ 1048576) (l3 : n2 ≤ 1048576) (l4 : m2 ≤ 1048576) :
    Calls Try.prog 57 #[.pointer (some ⟨p, 0, none⟩), .pointer (some ⟨q, 0, none⟩)] w fun e w' => e = .returned (.bool (eqS b1 r1 b2 r2)) ∧ ∃ q, w' = w.drewN q := by
  have H1 := fun q => eq_spec A n c b1 A2 n2 c2 b2 (w.drewN q) (h1.drewN q) (h3.drewN q) l1 l3
  have H2 := fun q => eq_spec B m d r1 B2 m2 d2 r2 (w.drewN q) (h2.drewN q) (h4.drewN q) l2 l4
  have K1 := Lib.hid H1
  have K2 := Lib.hid H2
  clear H1 H2 h1 h2 h3 h4 l1 l2 l3 l4
  cases he : eqL b1 b2
  · have HF := Lib.hid (show eqS b1 r1 b2 r2 = false by unfold eqS; rw [he]; rfl)
    go_enter Try.func57, Try.ntmps57
    go_wp2
    rw [he] at K1
    go_quiet ((go_at_call 99; exact Calls.quiet_of (K1.out _)))
    go_wp2
    go_ret
    exact ⟨ret_bool HF.out.symm, _, rfl⟩
  · have HF := Lib.hid (show eqS b1 r1 b2 r2 = eqL r1 r2 by unfold eqS; rw [he]; rfl)
    rw [he] at K1
    go_enter Try.func57, Try.ntmps57
    go_wp2
    go_quiet ((first | (go_at_call_of 99 (Value.slice A n c); exact Calls.quiet_of (K1.out _)) | (go_at_call_of 99 (Value.slice B m d); exact Calls.quiet_of (K2.out _))))
    go_wp2
    go_ret
    exact ⟨ret_bool HF.out.symm, _, rfl⟩

set_option maxHeartbeats 400000 in
theorem same_spec (h1 : Sl w A n (valsI b1)) (h2 : Sl w B m (valsI r1)) (h3 : Sl w A2 n2 (valsI b2)) (h4 : Sl w B2 m2 (valsI r2)) (l1 : n ≤ 1048576) (l2 : m ≤ 1048576) (l3 : n2 ≤ 1048576) (l4 : m2 ≤ 1048576) :
    Calls Try.prog 19 #[.agg #[.slice A n c, .slice B m d], .agg #[.slice A2 n2 c2, .slice B2 m2 d2]] w fun e w' => e = .returned (.bool (eqS b1 r1 b2 r2)) ∧ Kp [] w w' := by
  have g1 := Lib.hid h1
  have g2 := Lib.hid h2
  have g3 := Lib.hid h3
  have g4 := Lib.hid h4
  clear h1 h2 h3 h4
  go_enter Try.func19, Try.ntmps19
  go_wp2_with fail
  refine (same_low A n c b1 B m d r1 A2 n2 c2 b2 B2 m2 d2 r2 _ _ _ (by simp [go_sem]) (by simp [go_sem]) (by simp [go_sem]) (by simp [go_sem]) (by exact (g1.out.alloc _).alloc _) (by exact (g2.out.alloc _).alloc _) (by exact (g3.out.alloc _).alloc _) (by exact (g4.out.alloc _).alloc _) l1 l2 l3 l4).mono ?_
  rintro e w' ⟨rfl, q, rfl⟩
  go_wp2_with fail
  go_ret
  exact ⟨rfl, (((Kp.refl _).alloc _).alloc _).drewN _⟩

set_option maxHeartbeats 400000 in
theorem same_impl (h1 : Sl w A n (valsI b1)) (h2 : Sl w B m (valsI r1)) (h3 : Sl w A2 n2 (valsI b2)) (h4 : Sl w B2 m2 (valsI r2)) (l1 : n ≤ 1048576) (l2 : m ≤ 1048576) (l3 : n2 ≤ 1048576) (l4 : m2 ≤ 1048576) :
    Calls Try.prog 21 #[.agg #[.slice A n c, .slice B m d], .agg #[.slice A2 n2 c2, .slice B2 m2 d2]] w fun e w' => e = .returned (.bool (eqS b1 r1 b2 r2)) ∧ Kp [] w w' := by
  have g1 := Lib.hid h1
  have g2 := Lib.hid h2
  have g3 := Lib.hid h3
  have g4 := Lib.hid h4
  clear h1 h2 h3 h4
  cases he : eqL b1 b2
  · have HF := Lib.hid (show eqS b1 r1 b2 r2 = false by unfold eqS; rw [he]; rfl)
    go_enter Try.func21, Try.ntmps21
    go_wp2_with fail
    refine (eq_lib A n c b1 A2 n2 c2 b2 _ (by exact (g1.out.alloc _).alloc _) (by exact (g3.out.alloc _).alloc _) l1 l3).mono ?_
    rintro e w' ⟨rfl, q, rfl⟩
    go_wp2_with fail
    go_ret
    exact ⟨ret_bool HF.out.symm, (((Kp.refl _).alloc _).alloc _).drewN _⟩
  · have HF := Lib.hid (show eqS b1 r1 b2 r2 = eqL r1 r2 by unfold eqS; rw [he]; rfl)
    go_enter Try.func21, Try.ntmps21
    go_wp2_with fail
    refine (eq_lib A n c b1 A2 n2 c2 b2 _ (by exact (g1.out.alloc _).alloc _) (by exact (g3.out.alloc _).alloc _) l1 l3).mono ?_
    rintro e w' ⟨rfl, q, rfl⟩
    go_wp2_with fail
    refine (eq_lib B m d r1 B2 m2 d2 r2 _ (by exact ((g2.out.alloc _).alloc _).drewN _) (by exact ((g4.out.alloc _).alloc _).drewN _) l2 l4).mono ?_
    rintro e w' ⟨rfl, q2, rfl⟩
    go_wp2_with fail
    go_ret
    exact ⟨ret_bool HF.out.symm, (((Kp.refl _).alloc _).alloc _).drewN _⟩

set_option maxHeartbeats 400000 in
theorem same_law (h1 : Sl w A n (valsI b1)) (h2 : Sl w B m (valsI r1)) (h3 : Sl w A2 n2 (valsI b2)) (h4 : Sl w B2 m2 (valsI r2)) (l1 : n ≤ 1048576) (l2 : m ≤ 1048576) (l3 : n2 ≤ 1048576) (l4 : m2 ≤ 1048576) :
    Calls Try.prog 22 #[.agg #[.slice A n c, .slice B m d], .agg #[.slice A2 n2 c2, .slice B2 m2 d2]] w fun e w' => e = .returned (.bool (eqS b1 r1 b2 r2)) ∧ Kp [] w w' := by
  have g1 := Lib.hid h1
  have g2 := Lib.hid h2
  have g3 := Lib.hid h3
  have g4 := Lib.hid h4
  clear h1 h2 h3 h4
  cases he : eqL b1 b2
  · have HF := Lib.hid (show eqS b1 r1 b2 r2 = false by unfold eqS; rw [he]; rfl)
    go_enter Try.func22, Try.ntmps22
    go_wp2_with fail
    refine (eq_law A n c b1 A2 n2 c2 b2 _ (by exact (g1.out.alloc _).alloc _) (by exact (g3.out.alloc _).alloc _) l1 l3).mono ?_
    rintro e w' ⟨rfl, q, rfl⟩
    go_wp2_with fail
    go_ret
    exact ⟨ret_bool HF.out.symm, (((Kp.refl _).alloc _).alloc _).drewN _⟩
  · cases hr : eqL r1 r2
    · have HF := Lib.hid (show eqS b1 r1 b2 r2 = false by unfold eqS; rw [he, hr]; rfl)
      go_enter Try.func22, Try.ntmps22
      go_wp2_with fail
      refine (eq_law A n c b1 A2 n2 c2 b2 _ (by exact (g1.out.alloc _).alloc _) (by exact (g3.out.alloc _).alloc _) l1 l3).mono ?_
      rintro e w' ⟨rfl, q, rfl⟩
      go_wp2_with fail
      refine (eq_law B m d r1 B2 m2 d2 r2 _ (by exact ((g2.out.alloc _).alloc _).drewN _) (by exact ((g4.out.alloc _).alloc _).drewN _) l2 l4).mono ?_
      rintro e w' ⟨rfl, q2, rfl⟩
      go_wp2_with fail
      go_ret
      exact ⟨ret_bool HF.out.symm, (((Kp.refl _).alloc _).alloc _).drewN _⟩
    · have HF := Lib.hid (show eqS b1 r1 b2 r2 = true by unfold eqS; rw [he, hr]; rfl)
      go_enter Try.func22, Try.ntmps22
      go_wp2_with fail
      refine (eq_law A n c b1 A2 n2 c2 b2 _ (by exact (g1.out.alloc _).alloc _) (by exact (g3.out.alloc _).alloc _) l1 l3).mono ?_
      rintro e w' ⟨rfl, q, rfl⟩
      go_wp2_with fail
      refine (eq_law B m d r1 B2 m2 d2 r2 _ (by exact ((g2.out.alloc _).alloc _).drewN _) (by exact ((g4.out.alloc _).alloc _).drewN _) l2 l4).mono ?_
      rintro e w' ⟨rfl, q2, rfl⟩
      go_wp2_with fail
      go_ret
      exact ⟨ret_bool HF.out.symm, (((Kp.refl _).alloc _).alloc _).drewN _⟩
end
end Go.Proofs.Ytloffnamjgnkhaa
