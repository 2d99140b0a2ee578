/-
  A box that holds a scale; the law's region that calls the reference with copies of two scales. Conditions: the slices read as lists that are not too long.
-/
import Derived.Test.YtloffnamjgnkhaaReg
namespace Go.Proofs.Ytloffnamjgnkhaa
open Go.RowKit Mem Flo

/-- Block p holds a scale's two slices. -/
structure Bx (w : World) (p : Nat) (A : Option Addr) (n c : Nat) (B : Option Addr) (m d : Nat) : Prop where
  lt : p < w.heap.size
  c0 : w.cell? ⟨p, 0, none⟩ = some (.slice A n c)
  c1 : w.cell? ⟨p, 1, none⟩ = some (.slice B m d)
theorem Bx.kp {w w' : World} {p : Nat} {A : Option Addr} {n c : Nat} {B : Option Addr} {m d : Nat} (h : Bx w p A n c B m d) (hk : Kp [] w w') : Bx w' p A n c B m d :=
  ⟨Nat.lt_of_lt_of_le h.lt hk.size, (hk.cell (p := ⟨p, 0, none⟩) h.lt (by simp)).trans h.c0, (hk.cell (p := ⟨p, 1, none⟩) h.lt (by simp)).trans h.c1⟩
theorem Bx.new (w : World) (t : TypeId) (A : Option Addr) (n c : Nat) (B : Option Addr) (m d : Nat) : Bx (w.alloc (.cells #[.slice A n c, .slice B m d] t)) w.heap.size A n c B m d :=
  ⟨by simp, by simp [go_sem], by simp [go_sem]⟩

theorem szv_no {left : Int} {n m : Nat} (h : ¬ ((n : Int) + m ≤ left)) : szv left n m = -1 := by
  unfold szv
  split
  · rfl
  · rw [if_pos (by omega)]
theorem szv_yes {left : Int} {n m : Nat} (h : (n : Int) + m ≤ left) : szv left n m = left - n - m := by
  unfold szv
  rw [if_neg (by omega), if_neg (by omega)]
end Go.Proofs.Ytloffnamjgnkhaa
