/-
  The numbers of a list with a text: the reference's function. Conditions: the text is not too long.
-/
import Derived.Test.YtmlocepflcfkmaaDoorCut
import Derived.Test.YtmlocepflcfkmaaDoorAppV
import Derived.Test.YtmlocepflcfkmaaDoorRlL
import Derived.Test.YtmlocepflcfkmaaDoorRd
namespace Go.Proofs.YtmlocepflcfkmaaDoor
set_option linter.unusedVariables false
set_option linter.unusedSimpArgs false
open Go.RowKit Mem Dec

/-- What a list's reading hands back: an owned list and a flag. -/
def LiPost (R : List Int → Bool → Prop) (w : World) (e : Ending) (w' : World) : Prop :=
  ∃ xs ok A c, R xs ok ∧ e = .returned (.tuple #[.slice A xs.length c, .bool ok]) ∧ Kp [] w w' ∧ Own w.heap.size w' (.slice A xs.length c) xs
theorem LiPost.no {R : List Int → Bool → Prop} {w w' : World} (h : R [] false) (hk : Kp [] w w') : LiPost R w (.returned (.tuple #[.slice none 0 0, .bool false])) w' :=
  ⟨[], false, none, 0, h, rfl, hk, Own.nil _ _⟩
theorem LiPost.yes {R : List Int → Bool → Prop} {w w' : World} {A : Option Addr} {c : Nat} {xs : List Int} (h : R xs true) (hk : Kp [] w w') (ho : Own w.heap.size w' (.slice A xs.length c) xs) : LiPost R w (.returned (.tuple #[.slice A xs.length c, .bool true])) w' :=
  ⟨xs, true, A, c, h, rfl, hk, ho⟩
theorem own_mt {H : Nat} (w : World) (hs : H ≤ w.heap.size) : Own H (w.alloc (.cells #[] 2)) (.slice (some ⟨w.heap.size, 0, none⟩) 0 0) [] :=
  World.ownsRow_made w #[] 0 hs (Nat.zero_le _) (by simp)

abbrev noneB : ByteArray := ⟨#[110, 111, 110, 101]⟩
theorem noneB_iff (s : ByteArray) : s = noneB ↔ s.data.toList = noneL := by
  constructor
  · rintro rfl; rfl
  · intro h
    exact ((str_iff noneL s).2 h.symm).symm
theorem noneB_neq {s : ByteArray} (h : ¬ s = noneB) : (s.toList == [110, 111, 110, 101]) = false := by
  have h1 := str_neq h
  have e : noneB.toList = [110, 111, 110, 101] := by rw [ByteArray.toList_eq]
  rwa [e] at h1
theorem part_len {l : List UInt8} {p : List UInt8} (h : p ∈ Cut.cutL 44 l) : p.length ≤ l.length := by
  have h1 := Cut.cutL_sum 44 l
  have h2 : p.length ≤ ((Cut.cutL 44 l).map List.length).sum := by
    generalize Cut.cutL 44 l = ps at h
    clear h1
    induction ps with
    | nil => cases h
    | cons q ps ih =>
      rcases List.mem_cons.1 h with rfl | h
      · simp
      · have := ih h; simp; omega
  have h3 : 0 < (Cut.cutL 44 l).length := List.length_pos_of_mem h
  omega
/-- A part, where it lies. -/
theorem part_at {w : World} {g : Nat} {P : List ByteArray} {l : List UInt8} {k : Nat} (h : Sl w (some ⟨g, 0, none⟩) P.length (P.map Value.string)) (hp : Parts l P) (hk : k < P.length) :
    ∃ p, P[k]? = some p ∧ w.cell? ⟨g, k, none⟩ = some (.string p) ∧ (Cut.cutL 44 l)[k]? = some p.data.toList ∧ p.size ≤ l.length := by
  obtain ⟨b, off, u, eA, hb, hu, hc⟩ := h.at_ hk
  injection eA with eA
  injection eA with e1 e2
  subst e1 e2
  rw [Nat.zero_add] at hc
  rw [List.getElem?_map, Option.map_eq_some_iff] at hu
  obtain ⟨p, hp1, rfl⟩ := hu
  have h2 : (Cut.cutL 44 l)[k]? = some p.data.toList := by
    rw [← show P.map (·.data.toList) = Cut.cutL 44 l from hp, List.getElem?_map, hp1]; rfl
  exact ⟨p, hp1, hc, h2, part_len (List.mem_of_getElem? h2)⟩
theorem parts_len {l : List UInt8} {P : List ByteArray} (h : Parts l P) : (Cut.cutL 44 l).length = P.length := by
  rw [← show P.map (·.data.toList) = Cut.cutL 44 l from h, List.length_map]

set_option maxRecDepth 100000 in
set_option maxHeartbeats 2000000 in
theorem numbers_spec (s : ByteArray) (hs : s.size ≤ 1048576) (W : World) : Calls Tryd.prog 35 #[.string s] W (LiPost (Rl s.data.toList) W) := by
  have HO0 := Lib.hid (own_mt (H := W.heap.size) W (Nat.le_refl _))
  have HK0 := Lib.hid ((Kp.refl W).alloc (.cells #[] 2))
  by_cases hN : s = noneB
  · have HR := Lib.hid (Rl.none_ ((noneB_iff s).1 hN))
    subst hN
    go_enter Tryd.func35, Tryd.ntmps35
    go_wp2_with fail
    go_ret2
    exact LiPost.yes HR.out HK0.out HO0.out
  · have HN := Lib.hid (show s.data.toList ≠ noneL from fun h => hN ((noneB_iff s).2 h))
    have q1 := noneB_neq hN
    go_enter Tryd.func35, Tryd.ntmps35
    go_wp2_with fail
    clear q1 hN
    refine (cut_spec s hs _).mono ?_
    rintro e w1 ⟨g, cap, P, rfl, hp, hsl, hk1, hg, hg'⟩
    have HP := Lib.hid hp
    have HL := Lib.hid hsl
    have HO1 := Lib.hid (HO0.out.kp0 hk1)
    have HK1 := Lib.hid (HK0.out.tr hk1)
    have hgg : W.heap.size + 1 ≤ g := by simpa using hg
    clear hp hsl hk1 hg HO0 HK0
    by_cases h64 : 64 < P.length
    · have HR := Lib.hid (Rl.many HN.out (by rw [parts_len HP.out]; exact h64))
      go_wp2_with fail
      go_ret2
      exact LiPost.no HR.out HK1.out
    · go_wp2_with fail
      go_loopw [4, 6] (fun o i wr => ∃ (k g2 cap2 : Nat) (xs : List Int), o = .slice (some ⟨g2, 0, none⟩) xs.length cap2 ∧ i = .int .i64 (k : Int) ∧ k ≤ P.length ∧ Hid (g2 ≠ g ∧ g < wr.heap.size) ∧ Hid (Rk s.data.toList k xs) ∧ Hid (Own W.heap.size wr (.slice (some ⟨g2, 0, none⟩) xs.length cap2) xs) ∧ Hid (Sl wr (some ⟨g, 0, none⟩) P.length (P.map Value.string)) ∧ Hid (Kp [] W wr)) (fun _ i _ => P.length - (intOf i).toNat)
      case atStart => exact ⟨0, _, _, [], rfl, rfl, Nat.zero_le _, Lib.hid ⟨by omega, hg'⟩, Lib.hid (Rk.zero _), HO1, HL, HK1⟩
      case round =>
        obtain ⟨k, g2, cap2, xs, rfl, rfl, hk, HG, HR, HO, HS, HK⟩ := hrel
        by_cases hlt : k < P.length
        · obtain ⟨p, _, hcp, hpk, hpl⟩ := part_at HS.out HP.out hlt
          have HPK := Lib.hid hpk
          have HPS := Lib.hid (show p.size ≤ 1048576 from Nat.le_trans hpl hs)
          clear hpk hpl
          go_wp2_with fail
          refine (value_spec p HPS.out _).mono ?_
          rintro e w5 ⟨n, ok, rfl, hr5, hk5⟩
          have HR5 := Lib.hid hr5
          have K5 := Lib.hid hk5
          clear hr5 hk5 hcp
          cases ok
          · have HRR := Lib.hid (Rl.bad HN.out (List.mem_of_getElem? HPK.out) (Rd.bad HR5.out))
            go_wp2_with fail
            go_ret2
            exact LiPost.no HRR.out (HK.out.tr K5.out)
          · have hxl : xs.length ≤ 1048576 := by have := HR.out.len; omega
            obtain ⟨g3, cap3, w6, hr, hk6, hat, hlt6, ho6⟩ := run_app_i (x := n) (HO.out.kp0 K5.out) (Nat.le_trans HK.out.size K5.out.size) hxl
            have hk6' : Kp [g2] w5 w6 := by simpa [Value.ownBlock] using hk6
            have h2W := (HO.out.lt g2 rfl).1
            have hsz5 := K5.out.size
            have HG6 : Hid (g3 ≠ g ∧ g < w6.heap.size) := Lib.hid ⟨by
              rcases hat with hat | hat
              · have e3 : g2 = g3 := by simpa [Value.ownBlock] using hat
                rw [← e3]; exact HG.out.1
              · have := HG.out.2; omega, Nat.lt_of_lt_of_le HG.out.2 (Nat.le_trans hsz5 hk6'.size)⟩
            have HS6 := Lib.hid ((HS.out.kp K5.out).keep hk6' (by intro a ha; injection ha with ha; subst ha; simp; exact fun e => HG.out.1 e.symm))
            have HK6 := Lib.hid ((HK.out.tr K5.out).later hk6' (by intro t ht; simp at ht; omega))
            have HR6 := Lib.hid (HR.out.succ HPK.out HR5.out)
            have HO6 := Lib.hid (show Own W.heap.size w6 (.slice (some ⟨g3, 0, none⟩) (xs ++ [n]).length cap3) (xs ++ [n]) by rw [List.length_append]; exact ho6)
            clear hk6 hk6' hat hlt6 ho6 h2W hsz5
            go_wp2_with (at_builtin; refine wpList_appE (by rfl) _ _ 22 (by rfl) (by exact hr) ?_)
            go_wp2_with fail
            go_roundw
            case rel => exact ⟨k + 1, g3, cap3, xs ++ [n], by simp, by go_num, by omega, HG6, HR6, HO6, HS6, HK6⟩
            case measure => simp [intOf]; omega
        · obtain rfl : k = P.length := by omega
          have HRR := Lib.hid (HR.out.all HN.out (parts_len HP.out) (by omega))
          go_wp2_with fail
          go_ret2
          exact LiPost.yes HRR.out HK.out HO.out

theorem readlist_spec (s : ByteArray) (hs : s.size ≤ 1048576) (W : World) : Calls Tryd.prog 10 #[.string s] W (LiPost (Rl s.data.toList) W) := by
  go_enter Tryd.func10, Tryd.ntmps10
  go_wp2_with fail
  refine (numbers_spec s hs _).mono ?_
  rintro e w1 ⟨xs, ok, A, c, h1, rfl, h2, h3⟩
  have H1 := Lib.hid h1
  have H2 := Lib.hid h2
  have H3 := Lib.hid h3
  clear h1 h2 h3
  go_wp2_with fail
  go_ret2
  exact ⟨xs, ok, A, c, H1.out, rfl, H2.out, H3.out⟩
end Go.Proofs.YtmlocepflcfkmaaDoor
