/-
  What an argument that is a slice of float32 reads as. Conditions: it can be read.
-/
import Derived.Test.YtmlocepflcfkmaaDoorEqF
import Derived.ProofKit
import Derived.OpenShut
import Derived.ChangeOld
import Derived.Deep.Slices
namespace Go.Proofs.YtmlocepflcfkmaaDoor
open Go.RowKit Mem Flo Go.ChangeShapes Go.WideShapes Go.ChangeAt Go.Deep

theorem cell_ltF {w : World} {a : Addr} {v : Value} (h : w.cell? a = some v) : a.block < w.heap.size := by
  rcases Nat.lt_or_ge a.block w.heap.size with hlt | hge
  · exact hlt
  · simp [World.cell?, Array.getElem?_eq_none hge] at h

theorem trod_f32 {H : Type} {enc : TypeId × Value → H} {P : Program} {W : World} {base : Nat} {spare : Nat → Bool} {held : Bool} {fuel : Nat} {t : TypeId} {v : Value} {y : DataW H × List MemPlace}
    (ht : P.underlying t = some (.float .f32)) (h : DataW.trod enc P W base spare held fuel t [v] = some y) : ∃ b, v = .float .f32 b ∧ (Lit.float .f32 b).wf = true := by
  cases fuel with
  | zero => simp [DataW.trod] at h
  | succ n =>
    simp only [DataW.trod, ht] at h
    cases v <;> simp at h
    rename_i k b
    by_cases hk : FloatKind.f32 = k
    · subst hk
      exact ⟨b, rfl, by by_cases hw : (Lit.float .f32 b).wf = true; exact hw; simp [hw] at h⟩
    · simp_all

theorem wf_f32 {b : Nat} (h : (Lit.float .f32 b).wf = true) : b < 4294967296 := (rep_wf _ _ h).lt

theorem arg_floats {H : Type} {enc : TypeId × Value → H} {W : World} {base : Nat} {spare : Nat → Bool} {held : Bool} {fuel : Nat} {c0 : Value} {y : DataW H × List MemPlace}
    (hf : DataW.trod enc Tryd.prog W base spare held fuel 28 [c0] = some y) (hsp : ∀ b, spare b = true) : ∃ A n c zs, c0 = .slice A n c ∧ n ≤ 9223372036854775807 ∧ Sl W A n (valsF zs) ∧ AllF zs := by
  rcases open_slice1 Tryd.underlying28 (by kernel_rfl) hf with ⟨hcs, _⟩ | ⟨x, l, c, m, n, V, D, Pl, hcs, _, hl, hm, hmm, _, hV⟩
  · injection hcs with hcs _
    subst hcs
    exact ⟨none, 0, 0, [], rfl, by omega, Sl.nil, fun z hz => by cases hz⟩
  · injection hcs with hcs _
    subst hcs
    simp only [hsp, if_true] at hmm
    subst hmm
    have hb : ∀ i, i < l → ∃ b, V i = .float .f32 b ∧ b < 4294967296 := fun i hi => by
      obtain ⟨b, e, hw⟩ := trod_f32 Tryd.underlying52 (hV i (by omega)).2
      exact ⟨b, e, wf_f32 hw⟩
    refine ⟨some x, l, m, (List.range l).map (fun i => match V i with | .float _ b => b | _ => 0), rfl, by unfold maxLen at hm; omega, ?_, ?_⟩
    · refine ⟨by rw [valsF_len]; simp, fun h0 => ?_⟩
      have h1 := (hV 0 (by omega)).1
      obtain ⟨b, off, spot⟩ := x
      have hspot : spot = none := by simpa [Addr.add] using World.cell?_spot h1
      subst hspot
      refine ⟨b, off, rfl, by simpa [Addr.add] using cell_ltF h1, fun j u hu => ?_⟩
      have hj : j < l := by
        have := (List.getElem?_eq_some_iff.1 hu).1
        rw [valsF_len] at this
        simpa using this
      have h2 := (hV j (by omega)).1
      rw [Addr.add_lit] at h2
      rw [h2, valsF_at hu]
      obtain ⟨b', e', _⟩ := hb j hj
      simp [List.getD, hj, e']
    · intro z hz
      obtain ⟨i, hi, rfl⟩ := List.mem_map.1 hz
      obtain ⟨b', e', hlt⟩ := hb i (by simpa using hi)
      rw [e']
      exact hlt
end Go.Proofs.YtmlocepflcfkmaaDoor
