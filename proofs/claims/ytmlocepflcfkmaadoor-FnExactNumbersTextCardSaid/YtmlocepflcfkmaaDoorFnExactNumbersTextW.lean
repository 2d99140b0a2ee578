/-
  The walk of the law on NumbersText: it returns true. Conditions: the slice reads as a list; Go's powers of ten lie as the library lays them.
-/
import Derived.Test.YtmlocepflcfkmaaDoorNtI
namespace Go.Proofs.YtmlocepflcfkmaaDoor.fnExactNumbersText
set_option linter.unusedVariables false
set_option linter.unusedSimpArgs false
open Go.RowKit Mem Dec

theorem ltp (zs : List Nat) : ∃ S ok, ∀ w e w', NtPost zs w e w' → e = .returned (.tuple #[.string S, .bool ok]) ∧ Kp [] w w' := by
  by_cases h : zs.length ≤ 256
  · exact ⟨_, true, fun w e w' ⟨h1, h2⟩ => ⟨by rw [h1, if_pos h], h2⟩⟩
  · exact ⟨⟨#[]⟩, false, fun w e w' ⟨h1, h2⟩ => ⟨by rw [h1, if_neg h], h2⟩⟩

theorem row_sl (w : World) (zs : List Nat) (n : Nat) (hl : zs.length = n) : Sl (w.alloc (.cells (valsF zs).toArray 52)) (some ⟨w.heap.size, 0, none⟩) n (valsF zs) :=
  (Row.new w 52 (valsF zs)).sl (by rw [valsF_len, hl])

set_option maxHeartbeats 1000000 in
theorem walk (A : Option Addr) (n c : Nat) (zs : List Nat) (w : World) (h : Sl w A n (valsF zs)) (hn : n ≤ 9223372036854775807) (hwf : AllF zs) (ht : DeB w) :
    Calls Tryd.prog 8 #[.slice A n c] w fun e w' => e = .returned (.bool true) ∧ Below w.heap.size w w' := by
  have HA := Lib.hid h
  have HL := Lib.hid (show zs.length = n by rw [← valsF_len, h.len])
  have HTN := Lib.hid ht
  have HN := Lib.hid hn
  have HZ := Lib.hid hwf
  clear h ht hwf hn
  obtain ⟨S, ok, hp⟩ := ltp zs
  have HP := Lib.hid hp
  clear hp
  by_cases hl : n ≤ 1048576
  · have hl2 : ¬ (1048576 : Int) < n := by omega
    have HL2 := Lib.hid hl
    clear hl
    go_enter Tryd.func8, Tryd.ntmps8
    go_wp2_with fail
    refine (to_anyF A n c zs _ HA.out HL2.out).mono ?_
    rintro e w1 ⟨rfl, rfl⟩
    have K1 := Lib.hid ((Kp.refl w).alloc (.cells (valsF zs).toArray 52))
    go_wp2_with fail
    refine (nt_spec _ n n zs _ (row_sl w zs n HL.out) HL2.out HZ.out).mono ?_
    intro e w2 hpost
    obtain ⟨rfl, hk2⟩ := HP.out _ _ _ hpost
    have K2 := Lib.hid (K1.out.tr hk2)
    clear hpost hk2 K1
    go_wp2_with fail
    refine (to_anyF A n c zs _ (HA.out.kp K2.out) HL2.out).mono ?_
    rintro e w3 ⟨rfl, rfl⟩
    have K3 := Lib.hid (K2.out.alloc (.cells (valsF zs).toArray 52))
    have SX := Lib.hid (row_sl w2 zs n HL.out)
    clear K2
    go_wp2_with fail
    refine (nt_impl _ n n zs _ SX.out HL2.out HZ.out (HTN.out.kp K3.out)).mono ?_
    intro e w4 hpost
    obtain ⟨rfl, hk4⟩ := HP.out _ _ _ hpost
    have K4 := Lib.hid (K3.out.tr hk4)
    have SX4 := Lib.hid (SX.out.kp hk4)
    clear hpost hk4 K3 SX
    cases ok
    all_goals
      go_wp2_with fail
      refine (to_anyF A n c zs _ (HA.out.kp K4.out) HL2.out).mono ?_
      rintro e w5 ⟨rfl, rfl⟩
      have K5 := Lib.hid (K4.out.alloc (.cells (valsF zs).toArray 52))
      have SY := Lib.hid (row_sl w4 zs n HL.out)
      have SX5 := Lib.hid (SX4.out.alloc (.cells (valsF zs).toArray 52))
      go_wp2_with fail
      refine (eqf_any _ n n _ n zs _ SX5.out SY.out HL2.out HZ.out).mono ?_
      rintro e w6 ⟨rfl, q, rfl⟩
      go_wp2_with fail
      go_ret
      exact ⟨rfl, below_drewN K5.out.below0 _⟩
  · have hl2 : (1048576 : Int) < n := by omega
    have hn9 : (n : Int) ≤ 9223372036854775807 := by have := HN.out; omega
    clear hl
    go_enter Tryd.func8, Tryd.ntmps8
    go_wp2_with fail
    go_ret
    exact ⟨rfl, Below.refl _ _⟩
end Go.Proofs.YtmlocepflcfkmaaDoor.fnExactNumbersText
