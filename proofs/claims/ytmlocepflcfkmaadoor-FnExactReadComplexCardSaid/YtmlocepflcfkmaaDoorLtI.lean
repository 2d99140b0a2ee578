/-
  Numbers in decimal with commas between them: the program's functions. Conditions: the slice reads as a list; Go's powers of ten lie as the library lays them.
-/
import Derived.Test.YtmlocepflcfkmaaDoorLt
namespace Go.Proofs.YtmlocepflcfkmaaDoor
set_option linter.unusedVariables false
set_option linter.unusedSimpArgs false
open Go.RowKit Mem Dec

theorem owns_kp {w w' : World} {base : Nat} {e : TypeId} {size : Nat} {v : Value} {n : Nat} {xs : List Value} (h : w.ownsRow base e size v n xs) (hk : Kp [] w w') : w'.ownsRow base e size v n xs :=
  World.ownsRow.kept (row := none) h ⟨hk.os, hk.tape, hk.output, hk.size, fun k h2 _ => hk.block k h2 (by simp)⟩ (by cases v.ownBlock <;> simp)
theorem owns_cap {w : World} {base : Nat} {e : TypeId} {size g n cap : Nat} {xs : List Value} (h : w.ownsRow base e size (.slice (some ⟨g, 0, none⟩) n cap) n xs) : n ≤ cap ∧ g < w.heap.size ∧ base ≤ g := by
  rcases h.2 with ⟨h1, _⟩ | ⟨g', cap', cur, h1, h2, h3, h4, _⟩
  · cases h1
  · injection h1 with h1 _ h5
    injection h1 with h1
    injection h1 with h1
    subst h1 h5
    refine ⟨h4, ?_, h2⟩
    rcases Nat.lt_or_ge g w.heap.size with hlt | hge
    · exact hlt
    · rw [Array.getElem?_eq_none hge] at h3; cases h3

/-- The first k numbers' texts. -/
def strs (zs : List Int) (k : Nat) : List Value := (zs.take k).map fun z => .string ⟨(Lib.itoa z).toArray⟩
theorem strs_succ {zs : List Int} {k : Nat} {x : Int} (h : zs[k]? = some x) : strs zs (k + 1) = strs zs k ++ [.string ⟨(Lib.itoa x).toArray⟩] := by
  unfold strs
  rw [List.take_add_one, h, Option.toList_some, List.map_append]; rfl
theorem info9 : (Tryd.prog.info? 9).map (fun i => (i.zero, i.size, i.bytes)) = some (some (.string ByteArray.empty), 1, 16) := by kernel_rfl

theorem join_any (g cap n : Nat) (zs : List Int) (hl : zs.length = n) (h64 : n ≤ 64) (hz : ∀ z ∈ zs, Val z) (w : World) {base : Nat} (h : w.ownsRow base 9 1 (.slice (some ⟨g, 0, none⟩) n cap) n (strs zs n)) :
    Calls Tryd.prog 65 #[.slice (some ⟨g, 0, none⟩) n cap, .string ⟨#[44]⟩] w fun e w' => e = .returned (.string (bst (tx zs n))) ∧ Kp [] w w' := by
  obtain ⟨hc, hg, _⟩ := owns_cap h
  have e : Lib.join ((zs.map fun z => (⟨(Lib.itoa z).toArray⟩ : ByteArray)).map (·.data.toList)) (⟨#[44]⟩ : ByteArray).data.toList = tx zs n := by
    unfold tx
    rw [List.take_of_length_le (by omega), List.map_map]; rfl
  have htl := tx_len hz n
  have hx : (zs.map fun z => (⟨(Lib.itoa z).toArray⟩ : ByteArray)).length = n := by rw [List.length_map, hl]
  have hj := Tryd.strings_Join g 0 cap (zs.map fun z => (⟨(Lib.itoa z).toArray⟩ : ByteArray)) ⟨#[44]⟩ w (fun j x hj => by
      have h2 := World.ownsRow.cells h (g := g) rfl j (.string x) (by
        unfold strs
        rw [List.take_of_length_le (by omega)]
        rw [List.getElem?_map] at hj ⊢
        obtain ⟨z, hz, hx⟩ := Option.map_eq_some_iff.1 hj
        rw [hz, ← hx]; rfl)
      rw [Addr.add_lit] at h2
      exact h2) hg (by omega) (by omega) (by rw [e]; omega)
  rw [hx, e] at hj
  exact hj.mono fun e' w' ⟨h1, h2⟩ => ⟨h1, Kp.of_below h2⟩

set_option maxRecDepth 100000 in
set_option maxHeartbeats 2000000 in
theorem decimals_impl (A : Option Addr) (n c : Nat) (zs : List Int) (W : World) (h : Sl W A n (valsI zs)) (hn : n ≤ 64) (hz : ∀ z ∈ zs, Val z) (ht : Tens W) :
    Calls Tryd.prog 47 #[.slice A n c, .string ⟨#[44]⟩] W fun e w' => e = .returned (.string (bst (tx zs n))) ∧ Kp [] W w' := by
  have HA := Lib.hid h
  have HL := Lib.hid (show zs.length = n by rw [← valsI_len, h.len])
  have HZ := Lib.hid hz
  have HTN := Lib.hid ht
  clear h hz ht
  obtain ⟨i0, hi, hz0, hz1, hz2⟩ := info_parts info9
  go_enter Tryd.func47, Tryd.ntmps47
  go_wp2
  go_loopw [5, 11] (fun o i wr => ∃ (k g cap : Nat), o = .slice (some ⟨g, 0, none⟩) k cap ∧ i = .int .i64 (k : Int) ∧ k ≤ n ∧ wr.ownsRow W.heap.size 9 1 (.slice (some ⟨g, 0, none⟩) k cap) k (strs zs k) ∧ Kp [] W wr) (fun _ i _ => n - (intOf i).toNat)
  case atStart => exact ⟨0, _, _, rfl, rfl, Nat.zero_le _, World.ownsRow_made W #[] 0 (Nat.le_refl _) (by decide) rfl, (Kp.refl W).alloc _⟩
  case round =>
    obtain ⟨k, g, cap, rfl, rfl, hk, hown, hkp⟩ := hrel
    have HO := Lib.hid hown
    have HK := Lib.hid hkp
    clear hown hkp
    by_cases hlt : k < n
    · obtain ⟨b, off, y, rfl, hb, HY, hcy⟩ := slI_at (HA.out.kp HK.out) hlt
      have hy := HZ.out y (List.mem_of_getElem? HY.out)
      have hyl := hy.1
      have hyr := hy.2
      clear hy
      obtain ⟨Y, hY⟩ : ∃ Y : ByteArray, (⟨(Lib.itoa y).toArray⟩ : ByteArray) = Y := ⟨_, rfl⟩
      have HYY := Lib.hid hY
      clear hY
      go_wp2_with fail
      refine (dec_impl2 y (by omega) (by omega) _ (HTN.out.kp HK.out)).mono ?_
      rw [HYY.out]
      rintro e w2 ⟨rfl, hk2⟩
      have K2 := Lib.hid (HK.out.tr hk2)
      have HO2 := Lib.hid (owns_kp HO.out hk2)
      have hsz := K2.out.size
      clear hk2 hcy
      go_wp2_with (at_builtin; refine wpList_app rfl _ _ 49 rfl W.heap.size 9 i0 (.string ByteArray.empty) 1 16 Tryd.underlying49 hi hz0 hz1 hz2 rfl (by decide) (.slice (some ⟨g, 0, none⟩) k cap) k (strs zs k) rfl (World.ownsRow.alloc HO2.out _) ⟨w2.heap.size, 0, none⟩ 1 1 [.string Y] rfl rfl (cell_one_new w2 (.string Y) 9) (by simp [Value.oneCell']) (by omega) (by unfold maxLen; omega) (by omega) (by simp; omega) ?_; intro g2 cap2 w3 hown hgrow hat hlt2 hbg)
      have HN := Lib.hid (show w3.ownsRow W.heap.size 9 1 (.slice (some ⟨g2, 0, none⟩) (k + 1) cap2) (k + 1) (strs zs (k + 1)) by rw [strs_succ HY.out, HYY.out]; exact hown)
      have HK3 := Lib.hid ((K2.out.alloc (.cells #[.string Y] 9)).grown hgrow (fun b hb2 h2 => by
        have := (owns_cap HO2.out).2.2
        simp [Value.ownBlock] at hb2; omega))
      clear hown hgrow hat hlt2 hbg
      go_wp2
      go_roundw
      case rel => exact ⟨k + 1, g2, cap2, rfl, by go_num, by omega, HN.out, HK3.out⟩
      case measure => simp [intOf]; omega
    · obtain rfl : n = k := by omega
      go_wp2_with fail
      refine (join_any g cap n zs HL.out hn HZ.out _ HO.out).mono ?_
      rintro e w2 ⟨rfl, hk2⟩
      have K2 := Lib.hid (HK.out.tr hk2)
      clear hk2
      obtain ⟨R, hR⟩ : ∃ R, bst (tx zs n) = R := ⟨_, rfl⟩
      rw [hR]
      have HR := Lib.hid hR
      clear hR
      go_wp2_with fail
      go_ret
      refine ⟨?_, K2.out⟩
      rw [HR.out]
      rfl

/-- What both hand back. -/
def LtPost (zs : List Int) (w : World) (e : Ending) (w' : World) : Prop := e = .returned (.tuple (if lB zs then #[.string (if zs.length = 0 then ⟨#[110, 111, 110, 101]⟩ else bst (tx zs zs.length)), .bool true] else #[.string ⟨#[]⟩, .bool false])) ∧ Kp [] w w'

set_option maxRecDepth 100000 in
theorem lt_impl (A : Option Addr) (n c : Nat) (zs : List Int) (W : World) (h : Sl W A n (valsI zs)) (hn : n ≤ 1048576) (ht : Tens W) :
    Calls Tryd.prog 29 #[.slice A n c] W (LtPost zs W) := by
  have HA := Lib.hid h
  have HL := Lib.hid (show zs.length = n by rw [← valsI_len, h.len])
  have HTN := Lib.hid ht
  clear h ht
  cases hb : lB zs
  · have HP := Lib.hid (show ∀ w', Kp [] W w' → LtPost zs W (.returned (.tuple #[.string ⟨#[]⟩, .bool false])) w' from fun w' hk => ⟨by rw [hb]; rfl, hk⟩)
    go_enter Tryd.func29, Tryd.ntmps29
    go_wp2_with fail
    refine (count_any A n c zs 0 64 _ _ _ HA.out hn (by omega) (by omega)).mono ?_
    rw [show cntB zs 0 64 (-1000000000000000) 1000000000000000 = _ from hb]
    rintro e w1 ⟨rfl, hk1⟩
    have K1 := Lib.hid hk1
    clear hk1
    go_wp2_with fail
    go_ret2
    exact HP.out _ K1.out
  · have hy := lB_yes hb
    have h64 : n ≤ 64 := by rw [← HL.out]; exact hy.1
    have HZ := Lib.hid hy.2
    clear hy
    have HP := Lib.hid (show ∀ w' S, Kp [] W w' → S = (if zs.length = 0 then ⟨#[110, 111, 110, 101]⟩ else bst (tx zs zs.length)) → LtPost zs W (.returned (.tuple #[.string S, .bool true])) w' from fun w' S hk hS => ⟨by rw [hb, hS]; rfl, hk⟩)
    by_cases h0 : n = 0
    · subst h0
      have HS := Lib.hid (show (⟨#[110, 111, 110, 101]⟩ : ByteArray) = (if zs.length = 0 then ⟨#[110, 111, 110, 101]⟩ else bst (tx zs zs.length)) by rw [if_pos HL.out])
      go_enter Tryd.func29, Tryd.ntmps29
      go_wp2_with fail
      refine (count_any A 0 c zs 0 64 _ _ _ HA.out hn (by omega) (by omega)).mono ?_
      rw [show cntB zs 0 64 (-1000000000000000) 1000000000000000 = _ from hb]
      rintro e w1 ⟨rfl, hk1⟩
      have K1 := Lib.hid hk1
      clear hk1
      go_wp2_with fail
      go_ret2
      exact HP.out _ _ K1.out HS.out
    · have hl0 : ((n : Int) == 0) = false := by simpa using h0
      have HS := Lib.hid (show bst (tx zs n) = (if zs.length = 0 then ⟨#[110, 111, 110, 101]⟩ else bst (tx zs zs.length)) by rw [HL.out, if_neg h0])
      go_enter Tryd.func29, Tryd.ntmps29
      go_wp2_with fail
      refine (count_any A n c zs 0 64 _ _ _ HA.out hn (by omega) (by omega)).mono ?_
      rw [show cntB zs 0 64 (-1000000000000000) 1000000000000000 = _ from hb]
      rintro e w1 ⟨rfl, hk1⟩
      have K1 := Lib.hid hk1
      clear hk1
      go_wp2_with fail
      refine (decimals_impl A n c zs _ (HA.out.kp K1.out) h64 HZ.out (HTN.out.kp K1.out)).mono ?_
      rintro e w2 ⟨rfl, hk2⟩
      have K2 := Lib.hid (K1.out.tr hk2)
      clear hk2
      generalize bst (tx zs n) = R at *
      go_wp2_with fail
      go_ret2
      exact HP.out _ _ K2.out HS.out

set_option maxRecDepth 100000 in
theorem lt_spec (A : Option Addr) (n c : Nat) (zs : List Int) (W : World) (h : Sl W A n (valsI zs)) (hn : n ≤ 1048576) :
    Calls Tryd.prog 27 #[.slice A n c] W (LtPost zs W) := by
  have HA := Lib.hid h
  have HL := Lib.hid (show zs.length = n by rw [← valsI_len, h.len])
  clear h
  cases hb : lB zs
  · have HP := Lib.hid (show ∀ w', Kp [] W w' → LtPost zs W (.returned (.tuple #[.string ⟨#[]⟩, .bool false])) w' from fun w' hk => ⟨by rw [hb]; rfl, hk⟩)
    go_enter Tryd.func27, Tryd.ntmps27
    go_wp2_with fail
    refine (list_spec A n c zs _ HA.out hn).mono ?_
    rw [hb]
    rintro e w1 ⟨rfl, rfl⟩
    go_wp2_with fail
    go_ret2
    exact HP.out _ (Kp.refl _)
  · have hy := lB_yes hb
    have h64 : n ≤ 64 := by rw [← HL.out]; exact hy.1
    have HZ := Lib.hid hy.2
    clear hy
    have HP := Lib.hid (show ∀ w' S, Kp [] W w' → S = (if zs.length = 0 then ⟨#[110, 111, 110, 101]⟩ else bst (tx zs zs.length)) → LtPost zs W (.returned (.tuple #[.string S, .bool true])) w' from fun w' S hk hS => ⟨by rw [hb, hS]; rfl, hk⟩)
    by_cases h0 : n = 0
    · subst h0
      have HS := Lib.hid (show (⟨#[110, 111, 110, 101]⟩ : ByteArray) = (if zs.length = 0 then ⟨#[110, 111, 110, 101]⟩ else bst (tx zs zs.length)) by rw [if_pos HL.out])
      have ht0 : ∀ w, Calls Tryd.prog 45 #[.slice A 0 c] w fun e w' => e = .returned (.string ⟨#[110, 111, 110, 101]⟩) ∧ w = w' := fun w => by
        go_enter Tryd.func45, Tryd.ntmps45
        go_wp2
        go_ret
        exact ⟨rfl, rfl⟩
      go_enter Tryd.func27, Tryd.ntmps27
      go_wp2_with fail
      refine (list_spec A 0 c zs _ HA.out hn).mono ?_
      rw [hb]
      rintro e w1 ⟨rfl, rfl⟩
      go_wp2_with fail
      refine (ht0 _).mono ?_
      rintro e w1 ⟨rfl, rfl⟩
      go_wp2_with fail
      go_ret2
      exact HP.out _ _ (Kp.refl _) HS.out
    · have HS := Lib.hid (show bst (tx zs n) = (if zs.length = 0 then ⟨#[110, 111, 110, 101]⟩ else bst (tx zs zs.length)) by rw [HL.out, if_neg h0])
      have hpos : 0 < n := by omega
      go_enter Tryd.func27, Tryd.ntmps27
      go_wp2_with fail
      refine (list_spec A n c zs _ HA.out hn).mono ?_
      rw [hb]
      rintro e w1 ⟨rfl, rfl⟩
      go_wp2_with fail
      refine (text_spec A n c zs _ HA.out hpos h64 HZ.out).mono ?_
      rintro e w2 ⟨rfl, hk2⟩
      have K2 := Lib.hid hk2
      clear hk2
      generalize bst (tx zs n) = R at *
      go_wp2_with fail
      go_ret2
      exact HP.out _ _ K2.out HS.out
end Go.Proofs.YtmlocepflcfkmaaDoor
