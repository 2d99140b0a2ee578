/-
  What an argument that is a slice of bytes reads as. Conditions: it can be read.
-/
import Derived.Test.YtpebdcimbdbbmaaRows
import Derived.Test.YtpebdcimbdbbmaaMem
import Derived.KernelRfl
import Derived.ProofKit
import Derived.OpenShut
import Derived.ChangeOld
namespace Go.Proofs.Ytpebdcimbdbbmaa
set_option linter.unusedVariables false
set_option linter.unusedSimpArgs false
open Go.RowKit Mem Go.ChangeShapes Go.WideShapes Go.ChangeAt

def valsU (zs : List Int) : List Value := zs.map (Value.int .u8)
theorem valsU_at {zs : List Int} {j : Nat} {u : Value} (h : (valsU zs)[j]? = some u) : u = .int .u8 (zs.getD j 0) := by
  unfold valsU at h
  rw [List.getElem?_map, Option.map_eq_some_iff] at h
  obtain ⟨z, hz, rfl⟩ := h
  simp [List.getD, hz]
theorem valsU_len (zs : List Int) : (valsU zs).length = zs.length := by simp [valsU]

theorem cell_ltB {w : World} {a : Addr} {v : Value} (h : w.cell? a = some v) : a.block < w.heap.size := by
  rcases Nat.lt_or_ge a.block w.heap.size with hlt | hge
  · exact hlt
  · simp [World.cell?, Array.getElem?_eq_none hge] at h

theorem arg_bytes {H : Type} {enc : TypeId × Value → H} {W : World} {base : Nat} {spare : Nat → Bool} {held : Bool} {fuel : Nat} {c0 : Value} {y : DataW H × List MemPlace}
    (hf : DataW.trod enc Try.prog W base spare held fuel 47 [c0] = some y) (hsp : ∀ b, spare b = true) : ∃ A n c zs, c0 = .slice A n c ∧ n ≤ 9223372036854775807 ∧ Sl W A n (valsU zs) ∧ ∀ z ∈ zs, (Lit.int .u8 z).wf = true := by
  rcases open_ints Try.underlying47 Try.underlying5 (by kernel_rfl) hf with ⟨hcs, _⟩ | ⟨x, l, c, zs, hcs, _, hl, hm, hz, _, hcell, hwz⟩
  · injection hcs with hcs _
    subst hcs
    exact ⟨none, 0, 0, [], rfl, by omega, Sl.nil, by simp⟩
  · injection hcs with hcs _
    subst hcs
    simp only [hsp, if_true] at hz
    refine ⟨some x, l, c, zs.take l, rfl, by unfold maxLen at hm; omega, ?_, fun z hz' => hwz z (List.mem_of_mem_take hz')⟩
    refine ⟨by rw [valsU_len, List.length_take]; omega, fun h0 => ?_⟩
    have h1 := hcell 0 (by omega)
    obtain ⟨b, off, spot⟩ := x
    have hspot : spot = none := by simpa [Addr.add] using World.cell?_spot h1
    subst hspot
    refine ⟨b, off, rfl, by simpa [Addr.add] using cell_ltB h1, fun j u hu => ?_⟩
    have hj : j < l := by
      have := (List.getElem?_eq_some_iff.1 hu).1
      rw [valsU_len, List.length_take] at this
      omega
    have h2 := hcell j (by omega)
    rw [valsU_at hu]
    rw [Addr.add_lit] at h2
    rw [h2]
    simp [List.getD, hj]
end Go.Proofs.Ytpebdcimbdbbmaa
