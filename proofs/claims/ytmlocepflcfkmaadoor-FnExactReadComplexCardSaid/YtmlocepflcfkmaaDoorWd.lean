/-
  The words of a text: the program's function. Conditions: the text is not too long; Go's variable bytealg.MaxLen holds an int.
-/
import Derived.Test.YtmlocepflcfkmaaDoorRl
namespace Go.Proofs.YtmlocepflcfkmaaDoor
set_option linter.unusedVariables false
set_option linter.unusedSimpArgs false
open Go.RowKit Mem Dec

/-- The library's variable holds an int. -/
def MaxL (w : World) : Prop := ∃ m, w.cell? ⟨4, 0, none⟩ = some (.int .i64 m)
theorem MaxL.kp {w w' : World} (h : MaxL w) (hk : Kp [] w w') : MaxL w' := by
  obtain ⟨m, hm⟩ := h
  exact ⟨m, (hk.cell (World.block_lt_of_cell? _ _ hm) (by simp)).trans hm⟩
theorem maxL_of {w : World} (h : w.ShapedOpen Tryd.prog) : MaxL w := Tryd.laysM146.s1_3 w h

theorem split_impl (s : ByteArray) (hs : s.size ≤ 1048576) (W : World) (hm : MaxL W) :
    Calls Tryd.prog 56 #[.string s, .string ⟨#[44]⟩] W fun e w' => ∃ g P, e = .returned (.slice (some ⟨g, 0, none⟩) P.length P.length) ∧ Parts s.data.toList P ∧ Sl w' (some ⟨g, 0, none⟩) P.length (P.map Value.string) ∧ Kp [] W w' ∧ W.heap.size ≤ g ∧ g < w'.heap.size := by
  obtain ⟨m, hm⟩ := hm
  refine (Tryd.strings_Split s ⟨#[44]⟩ m W (by omega) hm (by decide)).mono ?_
  rintro e w' ⟨rfl, rfl⟩
  have hl := Lib.splitB_all (⟨#[44]⟩ : ByteArray) (by decide) 0 _ s rfl
  refine ⟨_, Lib.splitB ⟨#[44]⟩ 0 (Lib.countB s ⟨#[44]⟩) s, by rw [hl], Cut.splitB_cut s 44, ?_, (Kp.refl W).alloc _, Nat.le_refl _, by simp⟩
  exact (Row.new W _ _).sl (by simp)

/-- What the function hands back. -/
def WdPost (l : List UInt8) (M : Nat) (W : World) (e : Ending) (w' : World) : Prop :=
  Kp [] W w' ∧ ((l = noneL ∧ e = .returned (.tuple #[.slice none 0 0, .bool true])) ∨ (l ≠ noneL ∧ 20 * M < l.length ∧ e = .returned (.tuple #[.slice none 0 0, .bool false])) ∨
    (l ≠ noneL ∧ ∃ g P b, e = .returned (.tuple #[.slice (some ⟨g, 0, none⟩) P.length P.length, .bool b]) ∧ (b = true ↔ P.length ≤ M) ∧ Parts l P ∧ Sl w' (some ⟨g, 0, none⟩) P.length (P.map Value.string) ∧ W.heap.size ≤ g ∧ g < w'.heap.size))

set_option maxHeartbeats 1000000 in
theorem words_impl (s : ByteArray) (hs : s.size ≤ 1048576) (M : Nat) (hM : M ≤ 256) (W : World) (hm : MaxL W) : Calls Tryd.prog 36 #[.string s, .int .i64 (M : Int)] W (WdPost s.data.toList M W) := by
  have HM := Lib.hid hm
  clear hm
  by_cases hN : s = noneB
  · have HR := Lib.hid ((noneB_iff s).1 hN)
    subst hN
    go_enter Tryd.func36, Tryd.ntmps36
    go_wp2_with fail
    go_ret2
    exact ⟨Kp.refl _, .inl ⟨HR.out, rfl⟩⟩
  · have HN := Lib.hid (show s.data.toList ≠ noneL from fun h => hN ((noneB_iff s).2 h))
    have q1 := noneB_neq hN
    have w0 : IntKind.i64.wrap (20 * (M : Int)) = 20 * (M : Int) := IntWalk.i64_in _ (by omega)
    by_cases hlong : 20 * (M : Int) < (s.size : Int)
    · go_enter Tryd.func36, Tryd.ntmps36
      go_wp2_with fail
      go_ret2
      exact ⟨Kp.refl _, .inr (.inl ⟨HN.out, by rw [dl_len]; omega, rfl⟩)⟩
    · go_enter Tryd.func36, Tryd.ntmps36
      go_wp2_with fail
      refine (split_impl s hs _ HM.out).mono ?_
      rintro e w1 ⟨g, P, rfl, h1, h2, h3, h4, h5⟩
      have HP := Lib.hid h1
      have HS := Lib.hid h2
      have HK := Lib.hid h3
      have HG := Lib.hid (And.intro h4 h5)
      clear h1 h2 h3 h4 h5
      go_wp2_with fail
      go_ret2
      exact ⟨HK.out, .inr (.inr ⟨HN.out, g, P, decide (P.length ≤ M), rfl, decide_eq_true_iff, HP.out, HS.out, HG.out.1, HG.out.2⟩)⟩
end Go.Proofs.YtmlocepflcfkmaaDoor
