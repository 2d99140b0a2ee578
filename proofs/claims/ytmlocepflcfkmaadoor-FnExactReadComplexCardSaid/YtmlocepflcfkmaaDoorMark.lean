/-
  Slices that the call owns, and the law's marking of them: each element is turned to a number of its own, and read again. Conditions: the slices are owned and not too long.
-/
import Derived.Test.YtmlocepflcfkmaaDoorToI
import Derived.Laws.AppendOwn
import Derived.Laws.OwnMore
import Derived.Deep.AppendLies
namespace Go.Proofs.YtmlocepflcfkmaaDoor
open Go.RowKit Mem

/-- The slice v, from block B on, owns the list. -/
def Own (B : Nat) (w : World) (v : Value) (xs : List Int) : Prop := w.ownsRow B 2 1 v xs.length (valsI xs)

section
variable {B : Nat} {w w' : World} {v : Value} {xs : List Int} {T : List Nat}
theorem Own.kp (h : Own B w v xs) (hk : Kp T w w') (hn : ∀ k, v.ownBlock = some k → k ∉ T) : Own B w' v xs := by
  refine ⟨h.1, ?_⟩
  rcases h.2 with hn' | ⟨g, cap, cur, rfl, hb, hg, rest⟩
  · exact .inl hn'
  · exact .inr ⟨g, cap, cur, rfl, hb, (hk.block g (Array.getElem?_eq_some_iff.1 hg).1 (hn g rfl)).trans hg, rest⟩
theorem Own.kp0 (h : Own B w v xs) (hk : Kp [] w w') : Own B w' v xs := h.kp hk (by simp)
theorem Own.lt (h : Own B w v xs) : ∀ k, v.ownBlock = some k → B ≤ k ∧ k < w.heap.size := World.ownsRow.lt h
theorem Own.mono {B' : Nat} (h : Own B w v xs) (hb : B' ≤ B) : Own B' w v xs := by
  refine ⟨h.1, ?_⟩
  rcases h.2 with hn' | ⟨g, cap, cur, e, hb', rest⟩
  · exact .inl hn'
  · exact .inr ⟨g, cap, cur, e, by omega, rest⟩
theorem Own.nil (B : Nat) (w : World) : Own B w (.slice none 0 0) [] := World.ownsRow_nil w B 2 1
/-- What it looks like. -/
theorem Own.form (h : Own B w v xs) : ∃ A c, v = .slice A xs.length c ∧ Sl w A xs.length (valsI xs) := by
  have h0 := h
  rcases h.2 with ⟨rfl, h1⟩ | ⟨g, cap, cur, rfl, hb, hg, rest⟩
  · have h2 : xs = [] := List.length_eq_zero_iff.1 h1
    subst h2
    exact ⟨none, 0, rfl, Sl.nil⟩
  · refine ⟨_, _, rfl, by simp [valsI], fun hn => ⟨g, 0, rfl, (h0.lt g rfl).2, fun j u hu => ?_⟩⟩
    have := World.ownsRow.cells h0 (g := g) rfl j u hu
    rw [Nat.zero_add]
    have hadd : (⟨g, 0, none⟩ : Addr).add j = ⟨g, j, none⟩ := by unfold Addr.add; split <;> simp_all
    rwa [hadd] at this
theorem Own.some_ {A : Option Addr} {n c : Nat} (h : Own B w (.slice A n c) xs) (hn : 0 < n) : ∃ g, A = some ⟨g, 0, none⟩ ∧ B ≤ g ∧ g < w.heap.size := by
  have hl : xs.length = n := by
    obtain ⟨A', c', e, _⟩ := h.form
    injection e with _ e _
    exact e.symm
  obtain ⟨g, cap, e, h1, h2⟩ := World.ownsRow.form h (by omega)
  injection e with e _ _
  exact ⟨g, e, h1, h2⟩
theorem Own.len {A : Option Addr} {n c : Nat} (h : Own B w (.slice A n c) xs) : xs.length = n := by
  obtain ⟨A', c', e, _⟩ := h.form
  injection e with _ e _
  exact e.symm
end

theorem Mem.Kp.grown' {T : List Nat} {w w' w2 : World} (h : Kp T w w') {g : Option Nat} (hg : w'.grownBy w2 g) (hn : ∀ k, g = some k → k ∈ T) : Kp T w w2 :=
  ⟨hg.os.trans h.os, hg.tape.trans h.tape, hg.output.trans h.output, Nat.le_trans h.size hg.size, fun k hk hT =>
    (hg.block k (Nat.lt_of_lt_of_le hk h.size) (fun e => hT (hn k e.symm))).trans (h.block k hk hT)⟩

/-- n numbers from k on. -/
def upto (k : Int) (n : Nat) : List Int := (List.range n).map fun (i : Nat) => k + (i : Int)
/-- The first j elements are turned. -/
def mks (k : Int) (xs : List Int) (j : Nat) : List Int := upto k j ++ xs.drop j
theorem upto_len (k : Int) (n : Nat) : (upto k n).length = n := by simp [upto]
theorem mks_zero (k : Int) (xs : List Int) : mks k xs 0 = xs := by simp [mks, upto]
theorem mks_all (k : Int) (xs : List Int) : mks k xs xs.length = upto k xs.length := by simp [mks]
theorem mks_len (k : Int) {xs : List Int} {j : Nat} (h : j ≤ xs.length) : (mks k xs j).length = xs.length := by simp [mks, upto]; omega
theorem upto_succ (k : Int) (j : Nat) : upto k (j + 1) = upto k j ++ [k + (j : Int)] := by simp [upto, List.range_succ]
theorem mks_succ (k : Int) {xs : List Int} {j : Nat} (h : j < xs.length) : (mks k xs j).set j (k + (j : Int)) = mks k xs (j + 1) := by
  unfold mks
  rw [upto_succ, List.set_append, if_neg (by rw [upto_len]; omega), upto_len, Nat.sub_self, List.append_assoc]
  rw [List.drop_eq_getElem_cons h]
  rfl
theorem upto_at {k : Int} {n j : Nat} (h : j < n) : (upto k n)[j]? = some (k + (j : Int)) := by simp [upto, h]

set_option maxHeartbeats 400000 in
theorem mark1 {B : Nat} (A : Option Addr) (n c : Nat) (xs : List Int) (k : Int) (w : World) (h : Own B w (.slice A n c) xs) (hn : n ≤ 1048576) (h0 : 0 ≤ k) (h1 : k ≤ 4194304) :
    Calls Tryd.prog 13 #[.slice A n c, .int .i64 k] w fun e w' => e = .returned (.int .i64 (k + n)) ∧ Kp (Value.slice A n c).ownBlock.toList w w' ∧ Own B w' (.slice A n c) (upto k n) := by
  have HL := Lib.hid h.len
  have H := Lib.hid h
  clear h
  go_enter Tryd.func13, Tryd.ntmps13
  go_wp2
  go_loopw [5, 1] (fun i o wr => ∃ (j : Nat), j ≤ n ∧ i = .int .i64 j ∧ o = .int .i64 (k + (j : Int)) ∧ Kp (Value.slice A n c).ownBlock.toList w wr ∧ Hid (Own B wr (.slice A n c) (mks k xs j))) (fun i _ _ => n - (intOf i).toNat)
  case atStart => exact ⟨0, Nat.zero_le _, rfl, by simp, (Kp.refl _).mono (by simp), Lib.hid (by rw [mks_zero]; exact H.out)⟩
  case round =>
    obtain ⟨j, hj, rfl, rfl, HK, HD⟩ := hrel
    by_cases hlt : j < n
    · obtain ⟨g, rfl, hb, hg⟩ := HD.out.some_ (by omega)
      obtain ⟨u, hu⟩ : ∃ u, wr.cell? ⟨g, j, none⟩ = some u := by
        obtain ⟨A', c', e, hs⟩ := HD.out.form
        injection e with e1 e2 e3
        obtain ⟨b, off, u, e, _, _, hc⟩ := hs.at_ (k := j) (by omega)
        rw [← e1] at e
        injection e with e
        injection e with e e'
        subst e
        subst e'
        exact ⟨u, by simpa using hc⟩
      have hfz : wr.frozen? ⟨g, j, none⟩ = false := World.ownsRow.frozenAt (n := n) (cap := c) (by have := HD.out; unfold Own at this; rw [mks_len k (by rw [HL.out]; omega), HL.out] at this; exact this) j
      go_wp2
      go_roundw
      case rel =>
        have hs := World.ownsRow.stored (n := n) (cap := c) (by have := HD.out; unfold Own at this; rw [mks_len k (by rw [HL.out]; omega), HL.out] at this; exact this) j (.int .i64 (k + (j : Int)))
        refine ⟨j + 1, by omega, by go_num, by simp; omega, ?_, Lib.hid ?_⟩
        · exact HK.grown' hs.2 (by intro k' e; cases e; simp [Value.ownBlock])
        · have h2 := hs.1
          have e : (valsI (mks k xs j)).set j (.int .i64 (k + (j : Int))) = valsI (mks k xs (j + 1)) := by
            rw [← mks_succ k (by rw [HL.out]; omega)]
            simp [valsI, List.map_set]
          rw [e] at h2
          unfold Own
          rw [mks_len k (by rw [HL.out]; omega), HL.out]
          exact h2
      case measure => simp [intOf]; omega
    · obtain rfl : n = j := by omega
      have HR := Lib.hid (show Own B wr (.slice A n c) (upto k n) by have := HD.out; rw [← HL.out, mks_all, HL.out] at this; exact this)
      go_wp2
      go_ret
      exact ⟨rfl, HK, HR.out⟩

set_option maxHeartbeats 400000 in
theorem held1 (A : Option Addr) (n c : Nat) (k : Int) (w : World) (h : Sl w A n (valsI (upto k n))) (hn : n ≤ 1048576) (h0 : 0 ≤ k) (h1 : k ≤ 4194304) :
    Calls Tryd.prog 14 #[.slice A n c, .int .i64 k] w fun e w' => e = .returned (.int .i64 (k + n)) ∧ w = w' := by
  have H := Lib.hid h
  clear h
  go_enter Tryd.func14, Tryd.ntmps14
  go_wp2
  go_loopw [5, 1] (fun i o wr => ∃ (j : Nat), j ≤ n ∧ i = .int .i64 j ∧ o = .int .i64 (k + (j : Int)) ∧ wr = w) (fun i _ _ => n - (intOf i).toNat)
  case atStart => exact ⟨0, Nat.zero_le _, rfl, by simp, rfl⟩
  case round =>
    obtain ⟨j, hj, rfl, rfl, rfl⟩ := hrel
    by_cases hlt : j < n
    · obtain ⟨b, off, u, rfl, hb, hu, hc⟩ := H.out.at_ hlt
      obtain rfl := valsI_at hu
      clear hu
      have e : (upto k n).getD j 0 = k + (j : Int) := by simp [List.getD, upto_at hlt]
      rw [e] at hc
      clear e
      go_wp2
      go_roundw
      case rel => exact ⟨j + 1, by omega, by go_num, by simp; omega, by first | rfl | trivial⟩
      case measure => simp [intOf]; omega
    · obtain rfl : n = j := by omega
      go_wp2
      go_ret
      exact ⟨rfl, rfl⟩
end Go.Proofs.YtmlocepflcfkmaaDoor
