/-
  The law's own copy of a slice: a new block with the same elements, all else as it was. Conditions: the slice reads as a list that is not too long.
-/
import Derived.Test.YtmlocepflcfkmaaDoorRows
import Derived.Test.YtmlocepflcfkmaaDoorMem
import Derived.Lib.Hide
import Derived.KernelRfl
import Derived.OwnWalk
import Derived.Laws.Entries
namespace Go.Proofs.YtmlocepflcfkmaaDoor
open Go.RowKit Mem

theorem run_make_rowF (n : Nat) (hn : n ≤ 1048576) (w : World) :
    (Instr.makeSlice 28 (.int .i64 (n : Int)) (.int .i64 (n : Int))).run Tryd.prog w = .ok (.slice (some ⟨w.heap.size, 0, none⟩) n n) (w.alloc (.cells (madeCells #[.float .f32 0] (n * 1)) 52)) := by
  obtain ⟨i, hi, hz, hs, hb⟩ := info_parts (show (Tryd.prog.info? 52).map (fun i => (i.zero, i.size, i.bytes)) = some (some (.float .f32 0), 1, 4) by kernel_rfl)
  have hr := run_make (P := Tryd.prog) w 28 52 i (.float .f32 0) Tryd.underlying28 hi hz .i64 .i64 n n (by omega) (by omega) (by rw [hb]; omega) (by omega)
  simp only [Int.toNat_natCast, hs] at hr
  exact hr

def valsF (zs : List Nat) : List Value := zs.map (Value.float .f32)
theorem valsF_at {zs : List Nat} {j : Nat} {u : Value} (h : (valsF zs)[j]? = some u) : u = .float .f32 (zs.getD j 0) := by
  unfold valsF at h
  rw [List.getElem?_map, Option.map_eq_some_iff] at h
  obtain ⟨z, hz, rfl⟩ := h
  simp [List.getD, hz]
theorem valsF_len (zs : List Nat) : (valsF zs).length = zs.length := by simp [valsF]

/-- After k rounds: the cells of the new block. -/
def DoneF (zs : List Nat) (n k : Nat) (cs : Array Value) : Prop := cs.size = n ∧ ∀ j, j < k → cs[j]? = some (.float .f32 (zs.getD j 0))

theorem DoneF.zero (zs : List Nat) (n : Nat) : DoneF zs n 0 (madeCells #[.float .f32 0] (n * 1)) := ⟨by simp [size_madeCells], fun j hj => absurd hj (by omega)⟩
theorem DoneF.succ {zs : List Nat} {n k : Nat} {cs : Array Value} (h : DoneF zs n k cs) (hk : k < n) : DoneF zs n (k + 1) (cs.setIfInBounds k (.float .f32 (zs.getD k 0))) := by
  refine ⟨by simp [h.1], fun j hj => ?_⟩
  by_cases hjk : j = k
  · subst hjk; simp [h.1, hk]
  · rw [Array.getElem?_setIfInBounds_ne (fun h => hjk h.symm)]; exact h.2 j (by omega)
theorem DoneF.all {zs : List Nat} {n : Nat} {cs : Array Value} (h : DoneF zs n n cs) (hn : zs.length = n) : cs = (valsF zs).toArray := by
  apply Array.ext
  · simp [valsF, h.1, hn]
  · intro j h1 h2
    have := h.2 j (by rw [← h.1]; exact h1)
    have hj : j < zs.length := by rw [hn, ← h.1]; exact h1
    rw [Array.getElem?_eq_getElem h1] at this
    injection this with this
    rw [this]
    simp [valsF, List.getD, hj]
theorem DoneF.at_ {zs : List Nat} {n k : Nat} {cs : Array Value} (h : DoneF zs n k cs) (hk : k < n) : ∃ u, cs[k]? = some u := ⟨_, Array.getElem?_eq_getElem (by rw [h.1]; exact hk)⟩

theorem run_store_floatF (P : Program) (w : World) (a : Addr) (m : Mode) (k : FloatKind) (b : Nat) : (store a (.float k b) m).run P w = stored P w a (.float k b) m := run_store P w a _ m rfl

set_option maxHeartbeats 400000 in
theorem to_anyF (A : Option Addr) (n c : Nat) (zs : List Nat) (w : World) (h : Sl w A n (valsF zs)) (hn : n ≤ 1048576) :
    Calls Tryd.prog 31 #[.slice A n c] w fun e w' => e = .returned (.slice (some ⟨w.heap.size, 0, none⟩) n n) ∧ w' = w.alloc (.cells (valsF zs).toArray 52) := by
  have hmk := run_make_rowF n hn
  have hst := run_store_floatF
  have HN := Lib.hid (show zs.length = n by rw [← valsF_len, h.len])
  have HS := Lib.hid h; clear h
  have D0 := Lib.hid (DoneF.zero zs n)
  generalize madeCells #[.float .f32 0] (n * 1) = M at hmk D0
  go_enter Tryd.func31, Tryd.ntmps31
  go_wp2
  go_loopw [4] (fun i wr => ∃ (k : Nat) (cs : Array Value), k ≤ n ∧ i = .int .i64 k ∧ wr = w.alloc (.cells cs 52) ∧ Hid (DoneF zs n k cs)) (fun i _ => n - (intOf i).toNat)
  case atStart => exact ⟨0, M, Nat.zero_le _, rfl, rfl, D0⟩
  case round =>
    obtain ⟨k, cs, hk, rfl, rfl, HD⟩ := hrel
    by_cases hlt : k < n
    · obtain ⟨b, off, u, rfl, hb, hu, hc⟩ := HS.out.at_ hlt
      obtain rfl := valsF_at hu
      clear hu
      have hc' : (w.alloc (.cells cs 52)).cell? ⟨b, off + k, none⟩ = some (.float .f32 (zs.getD k 0)) := (World.cell?_alloc_lt (a := ⟨b, off + k, none⟩) w _ hb).trans hc
      clear hc
      obtain ⟨u, hu⟩ := HD.out.at_ hlt
      go_wp2
      go_roundw
      case rel => exact ⟨k + 1, cs.setIfInBounds k (.float .f32 (zs.getD k 0)), by omega, by go_num, by first | rfl | simp, Lib.hid (HD.out.succ hlt)⟩
      case measure => simp [intOf]; omega
    · obtain rfl : n = k := by omega
      obtain rfl := HD.out.all HN.out
      go_wp2
      go_ret
      exact ⟨rfl, rfl⟩
end Go.Proofs.YtmlocepflcfkmaaDoor
