/-
  Slices of float32 that the call owns, and the law's marking of them. Conditions: the slices are owned and not too long.
-/
import Derived.Test.YtmlocepflcfkmaaDoorAppV
import Derived.Test.YtmlocepflcfkmaaDoorEqF
import Derived.Laws.Cover2
namespace Go.Proofs.YtmlocepflcfkmaaDoor
set_option linter.unusedVariables false
open Go.RowKit Mem Flo

def OwnF (B : Nat) (w : World) (v : Value) (xs : List Nat) : Prop := w.ownsRow B 52 1 v xs.length (valsF xs)
section
variable {B : Nat} {w w' : World} {v : Value} {xs : List Nat} {T : List Nat}
theorem OwnF.kp (h : OwnF B w v xs) (hk : Kp T w w') (hn : ∀ k, v.ownBlock = some k → k ∉ T) : OwnF B w' v xs := by
  refine ⟨h.1, ?_⟩
  rcases h.2 with hn' | ⟨g, cap, cur, rfl, hb, hg, rest⟩
  · exact .inl hn'
  · exact .inr ⟨g, cap, cur, rfl, hb, (hk.block g (Array.getElem?_eq_some_iff.1 hg).1 (hn g rfl)).trans hg, rest⟩
theorem OwnF.kp0 (h : OwnF B w v xs) (hk : Kp [] w w') : OwnF B w' v xs := h.kp hk (by simp)
theorem OwnF.lt (h : OwnF B w v xs) : ∀ k, v.ownBlock = some k → B ≤ k ∧ k < w.heap.size := World.ownsRow.lt h
theorem OwnF.mono {B' : Nat} (h : OwnF B w v xs) (hb : B' ≤ B) : OwnF B' w v xs := by
  refine ⟨h.1, ?_⟩
  rcases h.2 with hn' | ⟨g, cap, cur, e, hb', rest⟩
  · exact .inl hn'
  · exact .inr ⟨g, cap, cur, e, by omega, rest⟩
theorem OwnF.nil (B : Nat) (w : World) : OwnF B w (.slice none 0 0) [] := World.ownsRow_nil w B 52 1
theorem OwnF.form (h : OwnF B w v xs) : ∃ A c, v = .slice A xs.length c ∧ Sl w A xs.length (valsF xs) := by
  have h0 := h
  rcases h.2 with ⟨rfl, h1⟩ | ⟨g, cap, cur, rfl, hb, hg, rest⟩
  · have h2 : xs = [] := List.length_eq_zero_iff.1 h1
    subst h2
    exact ⟨none, 0, rfl, Sl.nil⟩
  · refine ⟨_, _, rfl, by simp [valsF], fun hn => ⟨g, 0, rfl, (h0.lt g rfl).2, fun j u hu => ?_⟩⟩
    have := World.ownsRow.cells h0 (g := g) rfl j u hu
    rw [Nat.zero_add]
    have hadd : (⟨g, 0, none⟩ : Addr).add j = ⟨g, j, none⟩ := by unfold Addr.add; split <;> simp_all
    rwa [hadd] at this
theorem OwnF.len {A : Option Addr} {n c : Nat} (h : OwnF B w (.slice A n c) xs) : xs.length = n := by
  obtain ⟨A', c', e, _⟩ := h.form
  injection e with _ e _
  exact e.symm
theorem OwnF.some_ {A : Option Addr} {n c : Nat} (h : OwnF B w (.slice A n c) xs) (hn : 0 < n) : ∃ g, A = some ⟨g, 0, none⟩ ∧ B ≤ g ∧ g < w.heap.size := by
  have hl := h.len
  obtain ⟨g, cap, e, h1, h2⟩ := World.ownsRow.form h (by omega)
  injection e with e _ _
  exact ⟨g, e, h1, h2⟩
theorem OwnF.sl {A : Option Addr} {n c : Nat} (h : OwnF B w (.slice A n c) xs) : Sl w A n (valsF xs) := by
  obtain ⟨A', c', e, hs⟩ := h.form
  injection e with e1 e2 e3
  subst e1 e2
  exact hs
end
theorem ownF_mt {H : Nat} (w : World) (hs : H ≤ w.heap.size) : OwnF H (w.alloc (.cells #[] 52)) (.slice (some ⟨w.heap.size, 0, none⟩) 0 0) [] :=
  World.ownsRow_made w #[] 0 hs (Nat.zero_le _) (by simp)
theorem run_app_f {Bd : Nat} {v : Value} {xs : List Nat} {x : Nat} {w : World} (h : OwnF Bd w v xs) (hB : Bd ≤ w.heap.size) (hn : xs.length ≤ 1048576) :
    ∃ g cap w', (Builtin.append_ #[28, 28] 28 #[v, .slice (some ⟨w.heap.size, 0, none⟩) 1 1]).run Tryd.prog (w.alloc (.cells #[.float .f32 x] 52)) = .ok (.slice (some ⟨g, 0, none⟩) (xs.length + 1) cap) w' ∧
      Kp v.ownBlock.toList w w' ∧ (v.ownBlock = some g ∨ w.heap.size < g) ∧ g < w'.heap.size ∧ OwnF Bd w' (.slice (some ⟨g, 0, none⟩) (xs.length + 1) cap) (xs ++ [x]) := by
  obtain ⟨i0, hi0, hz0, hz1, hz2⟩ := info_parts (show (Tryd.prog.info? 52).map (fun i => (i.zero, i.size, i.bytes)) = some (some (.float .f32 0), 1, 4) by kernel_rfl)
  have h' : w.ownsRow Bd 52 1 v (valsF xs).length (valsF xs) := by rw [valsF_len]; exact h
  obtain ⟨g, cap, w', hr, hk, hat, hlt, _, ho⟩ := run_app_v (t := 28) (x := .float .f32 x) Tryd.underlying28 hi0 hz0 hz1 hz2 (by omega) rfl h' rfl hB (by rw [valsF_len]; exact hn)
  rw [valsF_len] at hr
  refine ⟨g, cap, w', hr, hk, hat, hlt, ?_⟩
  have e : valsF xs ++ [.float .f32 x] = valsF (xs ++ [x]) := by simp [valsF]
  rw [e, valsF_len, List.length_append, List.length_singleton] at ho
  unfold OwnF
  rw [List.length_append, List.length_singleton]
  exact ho

/-- n numbers from k on, as floats. -/
def uptoF (k : Int) (n : Nat) : List Nat := (List.range n).map fun (i : Nat) => floatOfInt .f32 (k + (i : Int))
/-- The first j elements are turned. -/
def mksF (k : Int) (xs : List Nat) (j : Nat) : List Nat := uptoF k j ++ xs.drop j
theorem uptoF_len (k : Int) (n : Nat) : (uptoF k n).length = n := by simp [uptoF]
theorem mksF_zero (k : Int) (xs : List Nat) : mksF k xs 0 = xs := by simp [mksF, uptoF]
theorem mksF_all (k : Int) (xs : List Nat) : mksF k xs xs.length = uptoF k xs.length := by simp [mksF]
theorem mksF_len (k : Int) {xs : List Nat} {j : Nat} (h : j ≤ xs.length) : (mksF k xs j).length = xs.length := by simp [mksF, uptoF]; omega
theorem uptoF_succ (k : Int) (j : Nat) : uptoF k (j + 1) = uptoF k j ++ [floatOfInt .f32 (k + (j : Int))] := by simp [uptoF, List.range_succ]
theorem mksF_succ (k : Int) {xs : List Nat} {j : Nat} (h : j < xs.length) : (mksF k xs j).set j (floatOfInt .f32 (k + (j : Int))) = mksF k xs (j + 1) := by
  unfold mksF
  rw [uptoF_succ, List.set_append, if_neg (by rw [uptoF_len]; omega), uptoF_len, Nat.sub_self, List.append_assoc]
  rw [List.drop_eq_getElem_cons h]
  rfl
theorem uptoF_at {k : Int} {n j : Nat} (h : j < n) : (uptoF k n)[j]? = some (floatOfInt .f32 (k + (j : Int))) := by simp [uptoF, h]
theorem foi_all : (List.range 600).all (fun (m : Nat) => !nan .f32 (floatOfInt .f32 (m : Int))) = true := by decide +kernel
theorem foi_self (k : Int) (h0 : 0 ≤ k) (h1 : k < 600) : FloatKind.f32.format.order (floatOfInt .f32 k) (floatOfInt .f32 k) = some .eq := by
  obtain ⟨m, rfl⟩ : ∃ m : Nat, k = m := ⟨k.toNat, by omega⟩
  have h := List.all_eq_true.1 foi_all m (List.mem_range.2 (by omega))
  have hn : nan .f32 (floatOfInt .f32 (m : Int)) = false := by simpa using h
  rw [order_sv .f32 _ _ hn hn]
  simp

set_option maxHeartbeats 400000 in
theorem mark1F {B : Nat} (A : Option Addr) (n c : Nat) (xs : List Nat) (k : Int) (w : World) (h : OwnF B w (.slice A n c) xs) (hn : n ≤ 1048576) (h0 : 0 ≤ k) (h1 : k ≤ 4194304) :
    Calls Tryd.prog 18 #[.slice A n c, .int .i64 k] w fun e w' => e = .returned (.int .i64 (k + n)) ∧ Kp (Value.slice A n c).ownBlock.toList w w' ∧ OwnF B w' (.slice A n c) (uptoF k n) := by
  have hst := run_store_floatF
  have HL := Lib.hid h.len
  have H := Lib.hid h
  clear h
  go_enter Tryd.func18, Tryd.ntmps18
  go_wp2
  go_loopw [5, 1] (fun i o wr => ∃ (j : Nat), j ≤ n ∧ i = .int .i64 j ∧ o = .int .i64 (k + (j : Int)) ∧ Kp (Value.slice A n c).ownBlock.toList w wr ∧ Hid (OwnF B wr (.slice A n c) (mksF k xs j))) (fun i _ _ => n - (intOf i).toNat)
  case atStart => exact ⟨0, Nat.zero_le _, rfl, by simp, (Kp.refl _).mono (by simp), Lib.hid (by rw [mksF_zero]; exact H.out)⟩
  case round =>
    obtain ⟨j, hj, rfl, rfl, HK, HD⟩ := hrel
    by_cases hlt : j < n
    · obtain ⟨g, rfl, hb, hg⟩ := HD.out.some_ (by omega)
      obtain ⟨u, hu⟩ : ∃ u, wr.cell? ⟨g, j, none⟩ = some u := by
        obtain ⟨A', c', e, hs⟩ := HD.out.form
        injection e with e1 e2 e3
        obtain ⟨b, off, u, e, _, _, hc⟩ := hs.at_ (k := j) (by omega)
        rw [← e1] at e
        injection e with e
        injection e with e e'
        subst e
        subst e'
        exact ⟨u, by simpa using hc⟩
      have hfz : wr.frozen? ⟨g, j, none⟩ = false := World.ownsRow.frozenAt (n := n) (cap := c) (by have := HD.out; unfold OwnF at this; rw [mksF_len k (by rw [HL.out]; omega), HL.out] at this; exact this) j
      go_wp2
      go_roundw
      case rel =>
        have hs := World.ownsRow.stored (n := n) (cap := c) (by have := HD.out; unfold OwnF at this; rw [mksF_len k (by rw [HL.out]; omega), HL.out] at this; exact this) j (.float .f32 (floatOfInt .f32 (k + (j : Int))))
        refine ⟨j + 1, by omega, by go_num, by simp; omega, ?_, Lib.hid ?_⟩
        · exact HK.grown hs.2 (by intro k' e _; cases e; simp [Value.ownBlock])
        · have h2 := hs.1
          have e : (valsF (mksF k xs j)).set j (.float .f32 (floatOfInt .f32 (k + (j : Int)))) = valsF (mksF k xs (j + 1)) := by
            rw [← mksF_succ k (by rw [HL.out]; omega)]
            simp [valsF, List.map_set]
          rw [e] at h2
          unfold OwnF
          rw [mksF_len k (by rw [HL.out]; omega), HL.out]
          exact h2
      case measure => simp [intOf]; omega
    · obtain rfl : n = j := by omega
      have HR := Lib.hid (show OwnF B wr (.slice A n c) (uptoF k n) by have := HD.out; rw [← HL.out, mksF_all, HL.out] at this; exact this)
      go_wp2
      go_ret
      exact ⟨rfl, HK, HR.out⟩

set_option maxHeartbeats 400000 in
theorem held1F (A : Option Addr) (n c : Nat) (k : Int) (w : World) (h : Sl w A n (valsF (uptoF k n))) (hn : n ≤ 256) (h0 : 0 ≤ k) (h1 : k ≤ 300) :
    Calls Tryd.prog 19 #[.slice A n c, .int .i64 k] w fun e w' => e = .returned (.int .i64 (k + n)) ∧ w = w' := by
  have H := Lib.hid h
  clear h
  go_enter Tryd.func19, Tryd.ntmps19
  go_wp2
  go_loopw [5, 1] (fun i o wr => ∃ (j : Nat), j ≤ n ∧ i = .int .i64 j ∧ o = .int .i64 (k + (j : Int)) ∧ wr = w) (fun i _ _ => n - (intOf i).toNat)
  case atStart => exact ⟨0, Nat.zero_le _, rfl, by simp, rfl⟩
  case round =>
    obtain ⟨j, hj, rfl, rfl, rfl⟩ := hrel
    by_cases hlt : j < n
    · obtain ⟨b, off, u, rfl, hb, hu, hc⟩ := H.out.at_ hlt
      obtain rfl := valsF_at hu
      clear hu
      have e : (uptoF k n).getD j 0 = floatOfInt .f32 (k + (j : Int)) := by simp [List.getD, uptoF_at hlt]
      rw [e] at hc
      clear e
      have hself := foi_self (k + (j : Int)) (by omega) (by omega)
      go_wp2
      go_roundw
      case rel => exact ⟨j + 1, by omega, by go_num, by simp; omega, by first | rfl | trivial⟩
      case measure => simp [intOf]; omega
    · obtain rfl : n = j := by omega
      go_wp2
      go_ret
      exact ⟨rfl, rfl⟩
end Go.Proofs.YtmlocepflcfkmaaDoor
