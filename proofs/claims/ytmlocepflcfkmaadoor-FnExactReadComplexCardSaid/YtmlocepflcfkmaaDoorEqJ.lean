/-
  Are two lists equal: the reference's, the law's and the library's functions answer alike. Conditions: the slices read as lists that are not too long.
-/
import Derived.Test.YtmlocepflcfkmaaDoorToI
import Derived.Deep.QuietTactic
import Derived.BigQuiet
namespace Go.Proofs.YtmlocepflcfkmaaDoor
open Go.RowKit Mem

theorem ret_bool {a b : Bool} (h : a = b) : Ending.returned (.bool a) = .returned (.bool b) := by rw [h]
def eqL (zs ys : List Int) : Bool := decide (zs = ys)
/-- The first k elements are equal. -/
def Eqk (zs ys : List Int) (k : Nat) : Prop := zs.take k = ys.take k

theorem slI_at {w : World} {A : Option Addr} {n k : Nat} {zs : List Int} (h : Sl w A n (valsI zs)) (hk : k < n) :
    ∃ b off x, A = some ⟨b, off, none⟩ ∧ b < w.heap.size ∧ Hid (zs[k]? = some x) ∧ w.cell? ⟨b, off + k, none⟩ = some (.int .i64 x) := by
  obtain ⟨b, off, u, e, hb, hu, hc⟩ := h.at_ hk
  unfold valsI at hu
  rw [List.getElem?_map, Option.map_eq_some_iff] at hu
  obtain ⟨z, hz, rfl⟩ := hu
  exact ⟨b, off, z, e, hb, hz, hc⟩

section
variable {zs ys : List Int} {k : Nat} {x y : Int}
theorem Eqk.zero : Eqk zs ys 0 := rfl
theorem Eqk.succ (h : Eqk zs ys k) (hx : Hid (zs[k]? = some x)) (hy : Hid (ys[k]? = some x)) : Eqk zs ys (k + 1) := by
  unfold Eqk at *
  rw [List.take_add_one, List.take_add_one, h, hx.out, hy.out]
theorem Eqk.no (_h : Eqk zs ys k) (hx : Hid (zs[k]? = some x)) (hy : Hid (ys[k]? = some y)) (hne : ¬ x = y) : eqL zs ys = false := by
  simp only [eqL, decide_eq_false_iff_not]
  intro e
  have h1 := hx.out
  rw [e, hy.out] at h1
  injection h1 with h1
  exact hne h1.symm
theorem Eqk.all {n : Nat} (h : Eqk zs ys n) (h1 : zs.length = n) (h2 : ys.length = n) : eqL zs ys = true := by
  unfold Eqk at h
  rw [List.take_of_length_le (by omega), List.take_of_length_le (by omega)] at h
  exact decide_eq_true h
end

set_option maxHeartbeats 400000 in
theorem eq_law (A : Option Addr) (n c : Nat) (zs : List Int) (B : Option Addr) (m d : Nat) (ys : List Int) (w : World) (h : Sl w A n (valsI zs)) (h2 : Sl w B m (valsI ys)) (hn : n ≤ 1048576) (hm : m ≤ 1048576) :
    Calls Tryd.prog 12 #[.slice A n c, .slice B m d] w fun e w' => e = .returned (.bool (eqL zs ys)) ∧ ∃ q, w' = w.drewN q := by
  have HA := Lib.hid h
  have HB := Lib.hid h2
  have hl : zs.length = n := by rw [← valsI_len, h.len]
  have hl2 : ys.length = m := by rw [← valsI_len, h2.len]
  clear h h2
  by_cases hnm : n = m
  · subst hnm
    have HL := Lib.hid hl
    have HL2 := Lib.hid hl2
    clear hl hl2
    go_enter Tryd.func12, Tryd.ntmps12
    go_wp2
    go_loopw [5] (fun i wr => ∃ (k q : Nat), k ≤ n ∧ i = .int .i64 k ∧ wr = w.drewN q ∧ Eqk zs ys k) (fun i _ => n - (intOf i).toNat)
    case atStart => exact ⟨0, 0, Nat.zero_le _, rfl, rfl, Eqk.zero⟩
    case round =>
      obtain ⟨k, q, hk, rfl, rfl, HE⟩ := hrel
      by_cases hlt : k < n
      · obtain ⟨b, off, x, rfl, hb, HX, hcx⟩ := slI_at HA.out hlt
        obtain ⟨b2, off2, y, rfl, hb2, HY, hcy⟩ := slI_at HB.out hlt
        by_cases e : x = y
        · subst e
          go_wp2
          go_quiet (fail)
          go_wp2
          go_roundw
          case rel => exact ⟨k + 1, _, by omega, by go_num, rfl, HE.succ HX HY⟩
          case measure => simp [intOf]; omega
        · have e' : (x == y) = false := beq_eq_false_iff_ne.2 e
          have HF := Lib.hid (HE.no HX HY e)
          clear e
          go_wp2
          go_quiet (fail)
          go_wp2
          go_ret
          exact ⟨ret_bool HF.out.symm, _, World.drewN_drewN _ _ _⟩
      · obtain rfl : n = k := by omega
        have HF := Lib.hid (HE.all HL.out HL2.out)
        go_wp2
        go_ret
        exact ⟨ret_bool HF.out.symm, _, rfl⟩
  · have hne : ((n : Int) == (m : Int)) = false := by rw [beq_eq_false_iff_ne]; omega
    have HF := Lib.hid (show eqL zs ys = false by simp only [eqL, decide_eq_false_iff_not]; intro hh; rw [hh] at hl; omega)
    clear hl hl2 hnm
    go_enter Tryd.func12, Tryd.ntmps12
    go_wp2
    go_ret
    exact ⟨ret_bool HF.out.symm, 0, rfl⟩

end Go.Proofs.YtmlocepflcfkmaaDoor
