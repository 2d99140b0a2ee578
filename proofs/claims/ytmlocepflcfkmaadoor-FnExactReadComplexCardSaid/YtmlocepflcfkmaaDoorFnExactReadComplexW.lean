/-
  The walk of the law FnExactReadComplex: it returns true. Conditions: Go's tables, errors and variable lie as the library lays them.
-/
import Derived.Test.YtmlocepflcfkmaaDoorRcS
namespace Go.Proofs.YtmlocepflcfkmaaDoor.fnExactReadComplex
open Go.RowKit Mem Dec Hex Rg

set_option maxRecDepth 100000 in
set_option maxHeartbeats 2000000 in
theorem walk (s : ByteArray) (w : World) (ws : s.size ≤ maxLen) (ht : DeB w) (he : Errs w) (hm : MaxL w) : Calls Tryd.prog 5 #[.string s] w fun e w' => e = .returned (.bool true) ∧ Below w.heap.size w w' := by
  have HT := Lib.hid ht
  have HE := Lib.hid he
  have HM := Lib.hid hm
  clear ht he hm
  by_cases hsz : (1048576 : Int) < (s.size : Int)
  · go_enter Tryd.func5, Tryd.ntmps5
    go_wp2
    go_ret
    exact ⟨rfl, (Kp.refl w).below0⟩
  · have hs : s.size ≤ 1048576 := by omega
    go_enter Tryd.func5, Tryd.ntmps5
    go_wp2_with fail
    refine (readc_spec s hs _).mono ?_
    rintro e w1 ⟨xs, ok, A1, c1, h1, rfl, hk1, ho1⟩
    have HR := Lib.hid h1
    have hl : xs.length ≤ 256 := h1.len
    have HAF := Lib.hid (show AllC xs from fun z hz => ⟨(h1.all_good z hz).1.1, (h1.all_good z hz).2.1⟩)
    have K1 := Lib.hid hk1
    have O1 := Lib.hid ho1
    clear h1 hk1 ho1
    go_wp2_with fail
    refine (readc_impl s hs _ (HT.out.kp K1.out) (HE.out.kp K1.out) (HM.out.kp K1.out)).mono ?_
    rintro e w2 ⟨ys, ok2, A2, c2, h2, rfl, hk2, ho2⟩
    obtain ⟨rfl, rfl⟩ := R.uniq good2_inj h2 HR.out
    have K2 := Lib.hid (K1.out.tr hk2)
    have O1b := Lib.hid (O1.out.kp0 hk2)
    have O2 := Lib.hid ho2
    have Z := Lib.hid (show ∀ a b, (Value.slice A1 ys.length c1).ownBlock = some a → (Value.slice A2 ys.length c2).ownBlock = some b → a < b from fun a b ha hb => by
      have := (O1.out.lt a ha).2
      have := (ho2.lt b hb).1
      omega)
    have Z1 := Lib.hid K1.out.size
    clear h2 hk2 ho2 K1 O1
    go_wp2_with fail
    refine (eqc_any _ _ _ _ _ ys _ (by exact O2.out.sl) (by exact O1b.out.sl) (by omega) HAF.out).mono ?_
    rintro e w3 ⟨rfl, q3, rfl⟩
    have K3 := Lib.hid (K2.out.tr (Kp.of_draw q3))
    have O13 := Lib.hid (O1b.out.kp0 (Kp.of_draw q3))
    have O23 := Lib.hid (O2.out.kp0 (Kp.of_draw q3))
    have RG := Lib.hid (show ∀ k, (Value.slice A2 ys.length c2).ownBlock = some k → w1.heap.size ≤ k from fun k hk => (O2.out.lt k hk).1)
    clear K2 O1b O2
    generalize w2.drewN q3 = w3 at *
    go_wp2_with fail
    refine (mark1C (B := 0) _ _ _ ys 1 _ (by exact O23.out.mono (Nat.zero_le _)) (by omega) (by omega) (by omega)).mono ?_
    rintro e w4 ⟨rfl, hk4, ho4⟩
    have K4 := Lib.hid (show Kp [] w w4 from ((K3.out.trans hk4).mono (by intro t ht hlt; have ht' : (Value.slice A2 ys.length c2).ownBlock = some t := (by simpa using ht); have := RG.out t ht'; have := Z1.out; omega)))
    have O14 := Lib.hid (O13.out.kp hk4 (fun k hk hh => by have hh' : (Value.slice A2 ys.length c2).ownBlock = some k := (by simpa using hh); have := Z.out k k hk hh'; omega))
    have O24 := Lib.hid ho4
    clear hk4 ho4 K3 O13 O23
    go_wp2_with fail
    refine (held1C _ _ _ 1 _ (by exact O24.out.sl) (by omega) (by omega) (by omega)).mono ?_
    rintro e w5 ⟨rfl, rfl⟩
    have hz : ¬ ((1 : Int) + ys.length < 0) := by omega
    go_wp2_with fail
    refine (readc_impl s hs _ (HT.out.kp K4.out) (HE.out.kp K4.out) (HM.out.kp K4.out)).mono ?_
    rintro e w6 ⟨zs, ok3, A3, c3, h6, rfl, hk6, ho6⟩
    obtain ⟨rfl, rfl⟩ := R.uniq good2_inj h6 HR.out
    have K6 := Lib.hid (K4.out.tr hk6)
    have O16 := Lib.hid (O14.out.kp0 hk6)
    have O26 := Lib.hid (O24.out.kp0 hk6)
    have O36 := Lib.hid ho6
    clear h6 hk6 ho6 K4 O14 O24
    go_wp2_with fail
    refine (eqc_any _ _ _ _ _ zs _ (by exact O36.out.sl) (by exact O16.out.sl) (by omega) HAF.out).mono ?_
    rintro e w7 ⟨rfl, q7, rfl⟩
    have K7 := Lib.hid (K6.out.tr (Kp.of_draw q7))
    have O27 := Lib.hid (O26.out.kp0 (Kp.of_draw q7))
    clear K6 O16 O26 O36
    generalize w6.drewN q7 = w7 at *
    go_wp2_with fail
    refine (held1C _ _ _ 1 _ (by exact O27.out.sl) (by omega) (by omega) (by omega)).mono ?_
    rintro e w8 ⟨rfl, rfl⟩
    go_wp2_with fail
    go_ret
    exact ⟨rfl, K7.out.below0⟩
end Go.Proofs.YtmlocepflcfkmaaDoor.fnExactReadComplex
