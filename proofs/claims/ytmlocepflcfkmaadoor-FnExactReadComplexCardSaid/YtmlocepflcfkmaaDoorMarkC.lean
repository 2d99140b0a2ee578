/-
  Slices of complex64 that the call owns, and the law's marking of them. Conditions: the slices are owned and not too long.
-/
import Derived.Test.YtmlocepflcfkmaaDoorAppV
import Derived.Test.YtmlocepflcfkmaaDoorCx
import Derived.Laws.Cover2
namespace Go.Proofs.YtmlocepflcfkmaaDoor
set_option linter.unusedVariables false
open Go.RowKit Mem Flo

theorem run_store_complex (P : Program) (w : World) (a : Addr) (m : Mode) (k : FloatKind) (b c : Nat) : (store a (.complex k b c) m).run P w = stored P w a (.complex k b c) m := run_store P w a _ m rfl

def OwnC (B : Nat) (w : World) (v : Value) (xs : List (Nat × Nat)) : Prop := w.ownsRow B 57 1 v xs.length (valsC xs)
section
variable {B : Nat} {w w' : World} {v : Value} {xs : List (Nat × Nat)} {T : List Nat}
theorem OwnC.kp (h : OwnC B w v xs) (hk : Kp T w w') (hn : ∀ k, v.ownBlock = some k → k ∉ T) : OwnC B w' v xs := by
  refine ⟨h.1, ?_⟩
  rcases h.2 with hn' | ⟨g, cap, cur, rfl, hb, hg, rest⟩
  · exact .inl hn'
  · exact .inr ⟨g, cap, cur, rfl, hb, (hk.block g (Array.getElem?_eq_some_iff.1 hg).1 (hn g rfl)).trans hg, rest⟩
theorem OwnC.kp0 (h : OwnC B w v xs) (hk : Kp [] w w') : OwnC B w' v xs := h.kp hk (by simp)
theorem OwnC.lt (h : OwnC B w v xs) : ∀ k, v.ownBlock = some k → B ≤ k ∧ k < w.heap.size := World.ownsRow.lt h
theorem OwnC.mono {B' : Nat} (h : OwnC B w v xs) (hb : B' ≤ B) : OwnC B' w v xs := by
  refine ⟨h.1, ?_⟩
  rcases h.2 with hn' | ⟨g, cap, cur, e, hb', rest⟩
  · exact .inl hn'
  · exact .inr ⟨g, cap, cur, e, by omega, rest⟩
theorem OwnC.nil (B : Nat) (w : World) : OwnC B w (.slice none 0 0) [] := World.ownsRow_nil w B 57 1
theorem OwnC.form (h : OwnC B w v xs) : ∃ A c, v = .slice A xs.length c ∧ Sl w A xs.length (valsC xs) := by
  have h0 := h
  rcases h.2 with ⟨rfl, h1⟩ | ⟨g, cap, cur, rfl, hb, hg, rest⟩
  · have h2 : xs = [] := List.length_eq_zero_iff.1 h1
    subst h2
    exact ⟨none, 0, rfl, Sl.nil⟩
  · refine ⟨_, _, rfl, by simp [valsC], fun hn => ⟨g, 0, rfl, (h0.lt g rfl).2, fun j u hu => ?_⟩⟩
    have := World.ownsRow.cells h0 (g := g) rfl j u hu
    rw [Nat.zero_add]
    have hadd : (⟨g, 0, none⟩ : Addr).add j = ⟨g, j, none⟩ := by unfold Addr.add; split <;> simp_all
    rwa [hadd] at this
theorem OwnC.len {A : Option Addr} {n c : Nat} (h : OwnC B w (.slice A n c) xs) : xs.length = n := by
  obtain ⟨A', c', e, _⟩ := h.form
  injection e with _ e _
  exact e.symm
theorem OwnC.some_ {A : Option Addr} {n c : Nat} (h : OwnC B w (.slice A n c) xs) (hn : 0 < n) : ∃ g, A = some ⟨g, 0, none⟩ ∧ B ≤ g ∧ g < w.heap.size := by
  have hl := h.len
  obtain ⟨g, cap, e, h1, h2⟩ := World.ownsRow.form h (by omega)
  injection e with e _ _
  exact ⟨g, e, h1, h2⟩
theorem OwnC.sl {A : Option Addr} {n c : Nat} (h : OwnC B w (.slice A n c) xs) : Sl w A n (valsC xs) := by
  obtain ⟨A', c', e, hs⟩ := h.form
  injection e with e1 e2 e3
  subst e1 e2
  exact hs
end
theorem ownC_mt {H : Nat} (w : World) (hs : H ≤ w.heap.size) : OwnC H (w.alloc (.cells #[] 57)) (.slice (some ⟨w.heap.size, 0, none⟩) 0 0) [] :=
  World.ownsRow_made w #[] 0 hs (Nat.zero_le _) (by simp)
theorem run_app_c {Bd : Nat} {v : Value} {xs : List (Nat × Nat)} {x : Nat × Nat} {w : World} (h : OwnC Bd w v xs) (hB : Bd ≤ w.heap.size) (hn : xs.length ≤ 1048576) :
    ∃ g cap w', (Builtin.append_ #[33, 33] 33 #[v, .slice (some ⟨w.heap.size, 0, none⟩) 1 1]).run Tryd.prog (w.alloc (.cells #[.complex .f32 x.1 x.2] 57)) = .ok (.slice (some ⟨g, 0, none⟩) (xs.length + 1) cap) w' ∧
      Kp v.ownBlock.toList w w' ∧ (v.ownBlock = some g ∨ w.heap.size < g) ∧ g < w'.heap.size ∧ OwnC Bd w' (.slice (some ⟨g, 0, none⟩) (xs.length + 1) cap) (xs ++ [x]) := by
  obtain ⟨i0, hi0, hz0, hz1, hz2⟩ := info_parts (show (Tryd.prog.info? 57).map (fun i => (i.zero, i.size, i.bytes)) = some (some (.complex .f32 0 0), 1, 8) by kernel_rfl)
  have h' : w.ownsRow Bd 57 1 v (valsC xs).length (valsC xs) := by rw [valsC_len]; exact h
  obtain ⟨g, cap, w', hr, hk, hat, hlt, _, ho⟩ := run_app_v (t := 33) (x := .complex .f32 x.1 x.2) Tryd.underlying33 hi0 hz0 hz1 hz2 (by omega) rfl h' rfl hB (by rw [valsC_len]; exact hn)
  rw [valsC_len] at hr
  refine ⟨g, cap, w', hr, hk, hat, hlt, ?_⟩
  have e : valsC xs ++ [.complex .f32 x.1 x.2] = valsC (xs ++ [x]) := by simp [valsC]
  rw [e, valsC_len, List.length_append, List.length_singleton] at ho
  unfold OwnC
  rw [List.length_append, List.length_singleton]
  exact ho

/-- A whole number as a float64, narrowed. -/
def dn (k : Int) : Nat := FloatKind.f32.encode (FloatKind.f64.decode (floatOfInt .f64 k))
/-- n numbers from k on, as complex numbers. -/
def uptoC (k : Int) (n : Nat) : List (Nat × Nat) := (List.range n).map fun (i : Nat) => (dn (k + (i : Int)), 1065353216)
/-- The first j elements are turned. -/
def mksC (k : Int) (xs : List (Nat × Nat)) (j : Nat) : List (Nat × Nat) := uptoC k j ++ xs.drop j
theorem uptoC_len (k : Int) (n : Nat) : (uptoC k n).length = n := by simp [uptoC]
theorem mksC_zero (k : Int) (xs : List (Nat × Nat)) : mksC k xs 0 = xs := by simp [mksC, uptoC]
theorem mksC_all (k : Int) (xs : List (Nat × Nat)) : mksC k xs xs.length = uptoC k xs.length := by simp [mksC]
theorem mksC_len (k : Int) {xs : List (Nat × Nat)} {j : Nat} (h : j ≤ xs.length) : (mksC k xs j).length = xs.length := by simp [mksC, uptoC]; omega
theorem uptoC_succ (k : Int) (j : Nat) : uptoC k (j + 1) = uptoC k j ++ [(dn (k + (j : Int)), 1065353216)] := by simp [uptoC, List.range_succ]
theorem mksC_succ (k : Int) {xs : List (Nat × Nat)} {j : Nat} (h : j < xs.length) : (mksC k xs j).set j (dn (k + (j : Int)), 1065353216) = mksC k xs (j + 1) := by
  unfold mksC
  rw [uptoC_succ, List.set_append, if_neg (by rw [uptoC_len]; omega), uptoC_len, Nat.sub_self, List.append_assoc]
  rw [List.drop_eq_getElem_cons h]
  rfl
theorem uptoC_at {k : Int} {n j : Nat} (h : j < n) : (uptoC k n)[j]? = some (dn (k + (j : Int)), 1065353216) := by simp [uptoC, h]
theorem dn_all : (List.range 600).all (fun (m : Nat) => !nan .f64 (floatOfInt .f64 (m : Int)) && !over (some (floatOfInt .f64 (m : Int))) && !nan .f32 (dn (m : Int))) = true := by decide +kernel
theorem dn_at (k : Int) (h0 : 0 ≤ k) (h1 : k < 600) : nan .f64 (floatOfInt .f64 k) = false ∧ over (some (floatOfInt .f64 k)) = false ∧ nan .f32 (dn k) = false := by
  obtain ⟨m, rfl⟩ : ∃ m : Nat, k = m := ⟨k.toNat, by omega⟩
  have h := List.all_eq_true.1 dn_all m (List.mem_range.2 (by omega))
  simp only [Bool.and_eq_true, Bool.not_eq_true'] at h
  exact ⟨h.1.1, h.1.2, h.2⟩
theorem run_fd {b : Nat} (h : nan .f64 b = false) (hi : over (some b) = false) (w : World) : (Conv.floatToFloat .f64 b .f32).run Tryd.prog w = .ok (.float .f32 (FloatKind.f32.encode (FloatKind.f64.decode b))) w := by
  have h1 := run_down_num (P := Tryd.prog) 56 52 Tryd.underlying56 Tryd.underlying52 h hi w
  simpa [convert, run_underlying (Tryd.underlying52), run_underlying (Tryd.underlying56)] using h1
theorem run_cdn (k : Int) (h0 : 0 ≤ k) (h1 : k < 600) (w : World) : (convert 59 57 (.complex .f64 (floatOfInt .f64 k) 4607182418800017408)).run Tryd.prog w = .ok (.complex .f32 (dn k) 1065353216) w := by
  obtain ⟨a1, a2, _⟩ := dn_at k h0 h1
  have b1 : nan .f64 4607182418800017408 = false := by decide +kernel
  have b2 : over (some 4607182418800017408) = false := by decide +kernel
  have b3 : FloatKind.f32.encode (FloatKind.f64.decode 4607182418800017408) = 1065353216 := by decide +kernel
  have e1 := run_fd a1 a2 w
  have e2 := run_fd b1 b2 w
  rw [b3] at e2
  simp [convert, run_underlying (Tryd.underlying57), run_underlying (Tryd.underlying59), Conv.complexToComplex, e1, e2, dn]
theorem dn_self (k : Int) (h0 : 0 ≤ k) (h1 : k < 600) : FloatKind.f32.format.order (dn k) (dn k) = some .eq := by
  have hn := (dn_at k h0 h1).2.2
  rw [order_sv .f32 _ _ hn hn]
  simp
theorem one_self : FloatKind.f32.format.order 1065353216 1065353216 = some .eq := by decide +kernel

set_option maxHeartbeats 400000 in
theorem mark1C {B : Nat} (A : Option Addr) (n c : Nat) (xs : List (Nat × Nat)) (k : Int) (w : World) (h : OwnC B w (.slice A n c) xs) (hn : n ≤ 256) (h0 : 0 ≤ k) (h1 : k ≤ 300) :
    Calls Tryd.prog 23 #[.slice A n c, .int .i64 k] w fun e w' => e = .returned (.int .i64 (k + n)) ∧ Kp (Value.slice A n c).ownBlock.toList w w' ∧ OwnC B w' (.slice A n c) (uptoC k n) := by
  have hst := run_store_complex
  have HL := Lib.hid h.len
  have H := Lib.hid h
  clear h
  go_enter Tryd.func23, Tryd.ntmps23
  go_wp2
  go_loopw [5, 1] (fun i o wr => ∃ (j : Nat), j ≤ n ∧ i = .int .i64 j ∧ o = .int .i64 (k + (j : Int)) ∧ Kp (Value.slice A n c).ownBlock.toList w wr ∧ Hid (OwnC B wr (.slice A n c) (mksC k xs j))) (fun i _ _ => n - (intOf i).toNat)
  case atStart => exact ⟨0, Nat.zero_le _, rfl, by simp, (Kp.refl _).mono (by simp), Lib.hid (by rw [mksC_zero]; exact H.out)⟩
  case round =>
    obtain ⟨j, hj, rfl, rfl, HK, HD⟩ := hrel
    by_cases hlt : j < n
    · obtain ⟨g, rfl, hb, hg⟩ := HD.out.some_ (by omega)
      obtain ⟨u, hu⟩ : ∃ u, wr.cell? ⟨g, j, none⟩ = some u := by
        obtain ⟨A', c', e, hs⟩ := HD.out.form
        injection e with e1 e2 e3
        obtain ⟨b, off, u, e, _, _, hc⟩ := hs.at_ (k := j) (by omega)
        rw [← e1] at e
        injection e with e
        injection e with e e'
        subst e
        subst e'
        exact ⟨u, by simpa using hc⟩
      have hfz : wr.frozen? ⟨g, j, none⟩ = false := World.ownsRow.frozenAt (n := n) (cap := c) (by have := HD.out; unfold OwnC at this; rw [mksC_len k (by rw [HL.out]; omega), HL.out] at this; exact this) j
      have hcv := run_cdn (k + (j : Int)) (by omega) (by omega)
      go_wp2
      go_roundw
      case rel =>
        have hs := World.ownsRow.stored (n := n) (cap := c) (by have := HD.out; unfold OwnC at this; rw [mksC_len k (by rw [HL.out]; omega), HL.out] at this; exact this) j (.complex .f32 (dn (k + (j : Int))) 1065353216)
        refine ⟨j + 1, by omega, by go_num, by simp; omega, ?_, Lib.hid ?_⟩
        · exact HK.grown hs.2 (by intro k' e _; cases e; simp [Value.ownBlock])
        · have h2 := hs.1
          have e : (valsC (mksC k xs j)).set j (.complex .f32 (dn (k + (j : Int))) 1065353216) = valsC (mksC k xs (j + 1)) := by
            rw [← mksC_succ k (by rw [HL.out]; omega)]
            simp [valsC, List.map_set]
          rw [e] at h2
          unfold OwnC
          rw [mksC_len k (by rw [HL.out]; omega), HL.out]
          exact h2
      case measure => simp [intOf]; omega
    · obtain rfl : n = j := by omega
      have HR := Lib.hid (show OwnC B wr (.slice A n c) (uptoC k n) by have := HD.out; rw [← HL.out, mksC_all, HL.out] at this; exact this)
      go_wp2
      go_ret
      exact ⟨rfl, HK, HR.out⟩

set_option maxHeartbeats 400000 in
theorem held1C (A : Option Addr) (n c : Nat) (k : Int) (w : World) (h : Sl w A n (valsC (uptoC k n))) (hn : n ≤ 256) (h0 : 0 ≤ k) (h1 : k ≤ 300) :
    Calls Tryd.prog 24 #[.slice A n c, .int .i64 k] w fun e w' => e = .returned (.int .i64 (k + n)) ∧ w = w' := by
  have H := Lib.hid h
  clear h
  go_enter Tryd.func24, Tryd.ntmps24
  go_wp2
  go_loopw [5, 1] (fun i o wr => ∃ (j : Nat), j ≤ n ∧ i = .int .i64 j ∧ o = .int .i64 (k + (j : Int)) ∧ wr = w) (fun i _ _ => n - (intOf i).toNat)
  case atStart => exact ⟨0, Nat.zero_le _, rfl, by simp, rfl⟩
  case round =>
    obtain ⟨j, hj, rfl, rfl, rfl⟩ := hrel
    by_cases hlt : j < n
    · obtain ⟨b, off, u, rfl, hb, hu, hc⟩ := H.out.at_ hlt
      obtain rfl := valsC_at hu
      clear hu
      have e : (uptoC k n).getD j (0, 0) = (dn (k + (j : Int)), 1065353216) := by simp [List.getD, uptoC_at hlt]
      rw [e] at hc
      clear e
      have hself := dn_self (k + (j : Int)) (by omega) (by omega)
      have hcv := run_cdn (k + (j : Int)) (by omega) (by omega)
      have hone := one_self
      go_wp2
      go_roundw
      case rel => exact ⟨j + 1, by omega, by go_num, by simp; omega, by first | rfl | trivial⟩
      case measure => simp [intOf]; omega
    · obtain rfl : n = j := by omega
      go_wp2
      go_ret
      exact ⟨rfl, rfl⟩
end Go.Proofs.YtmlocepflcfkmaaDoor
