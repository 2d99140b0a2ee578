/-
  A number in decimal: the reference's function. Conditions: the number is one of 64 bits.
-/
import Derived.Test.YtmlocepflcfkmaaDoorRows
import Derived.Test.YtmlocepflcfkmaaDoorDecL
import Derived.Test.YtmlocepflcfkmaaDoorApp
import Derived.Lib.Hide
import Derived.KernelRfl
import Derived.Laws.IdiomStrings
import Derived.Laws.Entries
namespace Go.Proofs.YtmlocepflcfkmaaDoor
set_option linter.unusedVariables false
set_option linter.unusedSimpArgs false
open Go.RowKit Mem Dec

/-- Bytes as cells. -/
def bysV (L : List UInt8) : List Value := L.map fun b => .int .u8 (b.toNat : Int)
theorem bysV_len (L : List UInt8) : (bysV L).length = L.length := by simp [bysV]
theorem bysV_one (L : List UInt8) : ∀ u ∈ bysV L, u.oneCell' = true := by
  intro u hu
  obtain ⟨b, _, rfl⟩ := List.mem_map.1 hu
  rfl
theorem info8 : (Tryd.prog.info? 5).map (fun i => (i.zero, i.size, i.bytes)) = some (some (.int .u8 0), 1, 1) := by kernel_rfl

/-- The slice v is a row of one's own, from block B on, that reads as the bytes L. -/
def OwnB (B : Nat) (w : World) (g cap : Nat) (L : List UInt8) : Prop := w.ownsRow B 5 1 (.slice (some ⟨g, 0, none⟩) L.length cap) L.length (bysV L)

theorem OwnB.cells {B : Nat} {w : World} {g cap : Nat} {L : List UInt8} (h : OwnB B w g cap L) : ∀ j u, (bysV L)[j]? = some u → w.cell? ((⟨g, 0, none⟩ : Addr).add j) = some u := World.ownsRow.cells h rfl
theorem OwnB.str {B : Nat} {w : World} {g cap : Nat} {L : List UInt8} (h : OwnB B w g cap L) : (convert 81 9 (.slice (some ⟨g, 0, none⟩) L.length cap)).run Tryd.prog w = .ok (.string ⟨L.toArray⟩) w :=
  run_convert_bytes_back w _ _ _ ⟨g, 0, none⟩ cap L Tryd.underlying81 Tryd.underlying5 Tryd.underlying9 (fun j hj => h.cells j _ (by unfold bysV; rw [List.getElem?_map, List.getElem?_eq_getElem hj]; rfl))

/-- The loop's state: k is left of m, L is written, at block g. -/
structure DS (B : Nat) (W w : World) (m k : Nat) (L : List UInt8) (g cap : Nat) : Prop where
  st : St m k L
  room : Room k L.length
  own : OwnB B w g cap L
  kp : Kp [] W w
  base : B = W.heap.size

def lenOf : Value → Nat
  | .slice _ n _ => n
  | _ => 0

theorem itoa_nat (m : Nat) : Lib.itoa (m : Int) = Lib.decDigits m := by
  unfold Lib.itoa
  rw [if_neg (by omega), Int.toNat_natCast]
theorem itoa_neg (m : Nat) (h : 0 < m) : Lib.itoa (-(m : Int)) = 45 :: Lib.decDigits m := by
  unfold Lib.itoa
  rw [if_pos (by omega), Int.natAbs_neg, Int.natAbs_natCast]

/-- The new byte, and what was written, in one row. -/
theorem DS.next {B : Nat} {W w w1 w2 : World} {m k : Nat} {L : List UInt8} {g cap g2 cap2 : Nat} (h : DS B W w m k L g cap) (hc : L = [] ∨ k ≠ 0)
    (h1 : Kp [] W w1) (hown : w2.ownsRow B 5 1 (.slice (some ⟨g2, 0, none⟩) (1 + L.length) cap2) (1 + L.length) ([.int .u8 (48 + ((k % 10 : Nat) : Int))] ++ bysV L)) {r : Option Nat} (hg : w1.grownBy w2 r) (hr : ∀ b, r = some b → W.heap.size ≤ b) :
    DS B W w2 m (k / 10) (dg k :: L) g2 cap2 := by
  refine ⟨h.st.next hc, (h.room.next (by rcases hc with hc | hc; · left; simp [hc]
                                         · exact .inr hc)).1, ?_, h1.grown hg (fun b hb hlt => absurd (hr b hb) (by omega)), h.base⟩
  unfold OwnB
  have e : [Value.int .u8 (48 + ((k % 10 : Nat) : Int))] ++ bysV L = bysV (dg k :: L) := by
    unfold bysV
    rw [List.map_cons, dg_nat]; rfl
  rw [e, Nat.add_comm] at hown
  exact hown
end Go.Proofs.YtmlocepflcfkmaaDoor
