/-
  Numbers' bits in hexadecimal with commas between them: the program's function. Conditions: the slice reads as a list of floats; Go's table of trailing zeros lies as the library lays it.
-/
import Derived.Test.YtmlocepflcfkmaaDoorNt
namespace Go.Proofs.YtmlocepflcfkmaaDoor
set_option linter.unusedVariables false
set_option linter.unusedSimpArgs false
open Go.RowKit Mem Dec Hex Flo

theorem NtPost.any {zs : List Nat} {w w' : World} {S : ByteArray} (h : zs.length ≤ 256) (hS : (if zs.length = 0 then ⟨#[110, 111, 110, 101]⟩ else bst (txH zs zs.length)) = S) (hk : Kp [] w w') : NtPost zs w (.returned (.tuple #[.string S, .bool true])) w' := ⟨by rw [if_pos h, hS], hk⟩
/-- The first k numbers' texts. -/
def strsH (zs : List Nat) (k : Nat) : List Value := (zs.take k).map fun z => .string ⟨(cbt z).toArray⟩
theorem strsH_succ {zs : List Nat} {k : Nat} {x : Nat} (h : zs[k]? = some x) : strsH zs (k + 1) = strsH zs k ++ [.string ⟨(cbt x).toArray⟩] := by
  unfold strsH
  rw [List.take_add_one, h, Option.toList_some, List.map_append]; rfl
theorem joinH_any (g cap n : Nat) (zs : List Nat) (hl : zs.length = n) (h256 : n ≤ 256) (w : World) {base : Nat} (h : w.ownsRow base 9 1 (.slice (some ⟨g, 0, none⟩) n cap) n (strsH zs n)) :
    Calls Tryd.prog 65 #[.slice (some ⟨g, 0, none⟩) n cap, .string ⟨#[44]⟩] w fun e w' => e = .returned (.string (bst (txH zs n))) ∧ Kp [] w w' := by
  obtain ⟨hc, hg, _⟩ := owns_cap h
  have e : Lib.join ((zs.map fun z => (⟨(cbt z).toArray⟩ : ByteArray)).map (·.data.toList)) (⟨#[44]⟩ : ByteArray).data.toList = txH zs n := by
    unfold txH
    rw [List.take_of_length_le (by omega), List.map_map]; rfl
  have htl := txH_len (zs := zs) n
  have hx : (zs.map fun z => (⟨(cbt z).toArray⟩ : ByteArray)).length = n := by rw [List.length_map, hl]
  have hj := Tryd.strings_Join g 0 cap (zs.map fun z => (⟨(cbt z).toArray⟩ : ByteArray)) ⟨#[44]⟩ w (fun j x hj => by
      have h2 := World.ownsRow.cells h (g := g) rfl j (.string x) (by
        unfold strsH
        rw [List.take_of_length_le (by omega)]
        rw [List.getElem?_map] at hj ⊢
        obtain ⟨z, hz, hx⟩ := Option.map_eq_some_iff.1 hj
        rw [hz, ← hx]; rfl)
      rw [Addr.add_lit] at h2
      exact h2) hg (by omega) (by omega) (by rw [e]; omega)
  rw [hx, e] at hj
  exact hj.mono fun e' w' ⟨h1, h2⟩ => ⟨h1, Kp.of_below h2⟩

set_option maxRecDepth 100000 in
set_option maxHeartbeats 2000000 in
theorem nt_impl (A : Option Addr) (n c : Nat) (zs : List Nat) (W : World) (h : Sl W A n (valsF zs)) (hn : n ≤ 1048576) (hz : AllF zs) (ht : DeB W) :
    Calls Tryd.prog 32 #[.slice A n c] W (NtPost zs W) := by
  have HA := Lib.hid h
  have HL := Lib.hid (show zs.length = n by rw [← valsF_len, h.len])
  have HZ := Lib.hid hz
  have HTN := Lib.hid ht
  clear h hz ht
  obtain ⟨i0, hi, hz0, hz1, hz2⟩ := info_parts info9
  by_cases h256 : (256 : Int) < (n : Int)
  · have HN := Lib.hid (show ¬ zs.length ≤ 256 by rw [HL.out]; omega)
    go_enter Tryd.func32, Tryd.ntmps32
    go_wp2_with fail
    go_ret2
    exact NtPost.no HN.out (Kp.refl _)
  · have h256' : n ≤ 256 := by omega
    go_enter Tryd.func32, Tryd.ntmps32
    go_wp2
    go_loopw [4, 13] (fun o i wr => ∃ (k g cap : Nat), o = .slice (some ⟨g, 0, none⟩) k cap ∧ i = .int .i64 (k : Int) ∧ k ≤ n ∧ wr.ownsRow W.heap.size 9 1 (.slice (some ⟨g, 0, none⟩) k cap) k (strsH zs k) ∧ Kp [] W wr) (fun _ i _ => n - (intOf i).toNat)
    case atStart => exact ⟨0, _, _, rfl, rfl, Nat.zero_le _, World.ownsRow_made W #[] 0 (Nat.le_refl _) (by decide) rfl, (Kp.refl W).alloc _⟩
    case round =>
      obtain ⟨k, g, cap, rfl, rfl, hk, hown, hkp⟩ := hrel
      have HO := Lib.hid hown
      have HK := Lib.hid hkp
      clear hown hkp
      by_cases hlt : k < n
      · obtain ⟨b, off, y, rfl, hb, HY, hcy⟩ := slF_at (HA.out.kp HK.out) hlt
        have HYB := Lib.hid (HZ.out y (List.mem_of_getElem? HY.out))
        obtain ⟨Y, hY⟩ : ∃ Y : ByteArray, (⟨(cbt y).toArray⟩ : ByteArray) = Y := ⟨_, rfl⟩
        have HYY := Lib.hid hY
        clear hY
        go_wp2_with fail
        refine (hexi y HYB.out _ (HTN.out.kp HK.out)).mono ?_
        rw [HYY.out]
        rintro e w2 ⟨rfl, hk2⟩
        have K2 := Lib.hid (HK.out.tr hk2)
        have HO2 := Lib.hid (owns_kp HO.out hk2)
        have hsz := K2.out.size
        clear hk2 hcy
        go_wp2_with (at_builtin; refine wpList_app rfl _ _ 49 rfl W.heap.size 9 i0 (.string ByteArray.empty) 1 16 Tryd.underlying49 hi hz0 hz1 hz2 rfl (by decide) (.slice (some ⟨g, 0, none⟩) k cap) k (strsH zs k) rfl (World.ownsRow.alloc HO2.out _) ⟨w2.heap.size, 0, none⟩ 1 1 [.string Y] rfl rfl (cell_one_new w2 (.string Y) 9) (by simp [Value.oneCell']) (by omega) (by unfold maxLen; omega) (by omega) (by simp; omega) ?_; intro g2 cap2 w3 hown hgrow hat hlt2 hbg)
        have HN := Lib.hid (show w3.ownsRow W.heap.size 9 1 (.slice (some ⟨g2, 0, none⟩) (k + 1) cap2) (k + 1) (strsH zs (k + 1)) by rw [strsH_succ HY.out, HYY.out]; exact hown)
        have HK3 := Lib.hid ((K2.out.alloc (.cells #[.string Y] 9)).grown hgrow (fun b hb2 h2 => by
          have := (owns_cap HO2.out).2.2
          simp [Value.ownBlock] at hb2; omega))
        clear hown hgrow hat hlt2 hbg
        go_wp2
        go_roundw
        case rel => exact ⟨k + 1, g2, cap2, rfl, by go_num, by omega, HN.out, HK3.out⟩
        case measure => simp [intOf]; omega
      · obtain rfl : n = k := by omega
        have HLs : Hid (Calls Tryd.prog 51 #[.slice (some ⟨g, 0, none⟩) n cap] wr fun e w' => e = .returned (.string (if n = 0 then ⟨#[110, 111, 110, 101]⟩ else bst (txH zs n))) ∧ Kp [] wr w') := Lib.hid (by
          by_cases h0 : n = 0
          · subst h0
            go_enter Tryd.func51, Tryd.ntmps51
            go_wp2_with fail
            go_ret
            exact ⟨rfl, Kp.refl _⟩
          · have hl0 : ((n : Int) == 0) = false := by simpa using h0
            have H0 := Lib.hid h0
            clear h0
            go_enter Tryd.func51, Tryd.ntmps51
            go_wp2_with fail
            refine (joinH_any g cap n zs HL.out h256' _ HO.out).mono ?_
            rintro e w2 ⟨rfl, hk2⟩
            have K2 := Lib.hid hk2
            clear hk2
            obtain ⟨R, hR⟩ : ∃ R, bst (txH zs n) = R := ⟨_, rfl⟩
            rw [hR]
            have HR := Lib.hid hR
            clear hR
            go_wp2_with fail
            go_ret
            exact ⟨by rw [HR.out]; rfl, K2.out⟩)
        obtain ⟨R, hR⟩ : ∃ R : ByteArray, (if n = 0 then ⟨#[110, 111, 110, 101]⟩ else bst (txH zs n)) = R := ⟨_, rfl⟩
        have HR := Lib.hid (show (if zs.length = 0 then ⟨#[110, 111, 110, 101]⟩ else bst (txH zs zs.length)) = R by rw [HL.out]; exact hR)
        have H256 := Lib.hid (show zs.length ≤ 256 by rw [HL.out]; exact h256')
        rw [hR] at HLs
        clear hR
        go_wp2_with fail
        refine HLs.out.mono ?_
        rintro e w2 ⟨rfl, hk2⟩
        have K2 := Lib.hid (HK.out.tr hk2)
        clear hk2 HLs
        go_wp2_with fail
        go_ret2
        exact NtPost.any H256.out HR.out K2.out
end Go.Proofs.YtmlocepflcfkmaaDoor
