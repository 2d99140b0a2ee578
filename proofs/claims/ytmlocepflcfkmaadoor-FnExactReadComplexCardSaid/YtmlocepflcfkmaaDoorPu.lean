/-
  strconv.ParseUint at base 16 and 32 bits, for a text of 8 bytes. Conditions: the text has 8 bytes; Go's error of syntax lies as an interface value.
-/
import Derived.Test.YtmlocepflcfkmaaDoorRgL
import Derived.Test.YtmlocepflcfkmaaDoorRl
import Derived.Test.YtmlocepflcfkmaaDoorSh
import Derived.Lib.ConvBytes
import Derived.Laws.BitsAllLaws
namespace Go.Proofs.YtmlocepflcfkmaaDoor
set_option linter.unusedVariables false
set_option linter.unusedSimpArgs false
open Go.RowKit Mem Dec Hex

namespace Rg
/-- The value of a digit, small or great. -/
def dgU (c : UInt8) : Option Nat := if 48 ≤ c.toNat ∧ c.toNat ≤ 57 then some (c.toNat - 48) else if 97 ≤ c.toNat ||| 32 ∧ c.toNat ||| 32 ≤ 102 then some ((c.toNat ||| 32) - 87) else none
theorem or32 : ∀ n : Nat, 97 ≤ n → n ≤ 102 → n ||| 32 = n := by
  intro n h1 h2
  have : n = 97 ∨ n = 98 ∨ n = 99 ∨ n = 100 ∨ n = 101 ∨ n = 102 := by omega
  rcases this with rfl | rfl | rfl | rfl | rfl | rfl <;> rfl
theorem dgU_of {c : UInt8} {d : Nat} (h : dgv c = some d) : dgU c = some d := by
  unfold dgv at h
  unfold dgU
  split at h
  · rename_i h1
    rw [if_pos h1]; exact h
  · rename_i h1
    rw [if_neg h1]
    split at h
    · rename_i h2
      rw [or32 _ h2.1 h2.2, if_pos h2]; exact h
    · cases h
def vlU : Nat → List UInt8 → Option Nat
  | a, [] => some a
  | a, c :: l => match dgU c with
    | some d => vlU (16 * a + d) l
    | none => none
theorem vlU_of : ∀ (l : List UInt8) (a v : Nat), vlH a l = some v → vlU a l = some v
  | [], a, v, h => h
  | c :: l, a, v, h => by
    unfold vlH at h
    unfold vlU
    cases hd : dgv c with
    | none => rw [hd] at h; cases h
    | some d =>
      rw [hd] at h
      rw [dgU_of hd]
      exact vlU_of l _ v h
theorem dgU_lt {c : UInt8} {d : Nat} (h : dgU c = some d) : d < 16 := by
  unfold dgU at h
  split at h
  · injection h with h; omega
  · split at h
    · injection h with h; omega
    · cases h
/-- What is parsed. -/
def PuR (T : TypeId) (o : Option Nat) : Value := match o with
  | some v => .tuple #[.int .u64 (v : Int), .nilIface]
  | none => .tuple #[.int .u64 0, .iface T (.int .i64 2)]
theorem vlU_snoc (c : UInt8) : ∀ (l : List UInt8) (a : Nat), vlU a (l ++ [c]) = match vlU a l with
    | some v => (match dgU c with
      | some d => some (16 * v + d)
      | none => none)
    | none => none
  | [], a => by
    rw [List.nil_append, vlU]
    simp only [vlU]
  | x :: l, a => by
    rw [List.cons_append, vlU, vlU]
    cases dgU x with
    | none => rfl
    | some d => exact vlU_snoc c l _
theorem vlU_bad {c : UInt8} (hc : dgU c = none) : ∀ (l r : List UInt8) (a : Nat), vlU a (l ++ c :: r) = none
  | [], r, a => by rw [List.nil_append, vlU, hc]
  | x :: l, r, a => by
    rw [List.cons_append, vlU]
    cases dgU x with
    | none => rfl
    | some d => exact vlU_bad hc l r _
theorem vlU_lt : ∀ (k : Nat) (l : List UInt8) (v : Nat), l.length = k → vlU 0 l = some v → v < 16 ^ k
  | 0, l, v, hl, h => by
    have : l = [] := List.length_eq_zero_iff.1 hl
    subst this
    simp only [vlU] at h
    injection h with h
    subst h
    decide
  | k + 1, l, v, hl, h => by
    have hne : l ≠ [] := fun e => by rw [e] at hl; cases hl
    obtain ⟨p, c, rfl⟩ : ∃ p c, l = p ++ [c] := ⟨l.dropLast, l.getLast hne, (List.dropLast_concat_getLast hne).symm⟩
    have hp : p.length = k := by simpa using hl
    rw [vlU_snoc] at h
    cases hv : vlU 0 p with
    | none => rw [hv] at h; cases h
    | some w =>
      rw [hv] at h
      simp only [] at h
      cases hd : dgU c with
      | none => rw [hd] at h; cases h
      | some d =>
        rw [hd] at h
        simp only [] at h
        injection h with h
        subst h
        have h1 := vlU_lt k p w hp hv
        have h2 := dgU_lt hd
        rw [Nat.pow_succ]
        omega
/-- The first k bytes are parsed. -/
structure Ps (bs : List UInt8) (k acc : Nat) : Prop where
  v : vlU 0 (bs.take k) = some acc
  lt : acc < 16 ^ k
theorem Ps.zero (bs : List UInt8) : Ps bs 0 0 := ⟨by simp [vlU], by decide⟩
theorem Ps.succ {bs : List UInt8} {k acc d : Nat} {c : UInt8} (h : Ps bs k acc) (hc : bs[k]? = some c) (hd : dgU c = some d) : Ps bs (k + 1) (16 * acc + d) := by
  have hl : k < bs.length := (List.getElem?_eq_some_iff.1 hc).1
  have e : vlU 0 (bs.take (k + 1)) = some (16 * acc + d) := by
    rw [List.take_add_one, hc]
    simp only [Option.toList_some]
    rw [vlU_snoc, h.v]
    simp only []
    rw [hd]
  exact ⟨e, vlU_lt (k + 1) _ _ (by rw [List.length_take]; omega) e⟩
theorem Ps.bad {bs : List UInt8} {k : Nat} {c : UInt8} (hc : bs[k]? = some c) (hd : dgU c = none) : vlU 0 bs = none := by
  have hl : k < bs.length := (List.getElem?_eq_some_iff.1 hc).1
  have e : bs = bs.take k ++ c :: bs.drop (k + 1) := by
    have e2 : bs.drop k = c :: bs.drop (k + 1) := by
      rw [List.drop_eq_getElem_cons hl]
      congr 1
      exact Option.some.inj ((List.getElem?_eq_getElem hl).symm.trans hc)
    rw [← e2, List.take_append_drop]
  rw [e]
  exact vlU_bad hd _ _ _
theorem dgU_dec {c : UInt8} (h1 : 48 ≤ c.toNat) (h2 : c.toNat ≤ 57) : dgU c = some (c.toNat - 48) := by unfold dgU; rw [if_pos ⟨h1, h2⟩]
theorem dgU_hex {c : UInt8} (h0 : ¬ (48 ≤ c.toNat ∧ c.toNat ≤ 57)) (h1 : 97 ≤ c.toNat ||| 32) (h2 : c.toNat ||| 32 ≤ 102) : dgU c = some ((c.toNat ||| 32) - 87) := by unfold dgU; rw [if_neg h0, if_pos ⟨h1, h2⟩]
theorem dgU_no {c : UInt8} (h0 : ¬ (48 ≤ c.toNat ∧ c.toNat ≤ 57)) (h1 : ¬ (97 ≤ c.toNat ||| 32 ∧ c.toNat ||| 32 ≤ 102)) : dgU c = none := by unfold dgU; rw [if_neg h0, if_neg h1]
end Rg
open Rg

theorem lower_any (c : Nat) (hc : c < 256) (w : World) : Calls Tryd.prog 93 #[.int .u8 (c : Int)] w fun e w' => e = .returned (.int .u8 ((c ||| 32 : Nat) : Int)) ∧ w = w' := by
  have q := u8_or_nat c 32 hc (by decide)
  rw [show ((32 : Nat) : Int) = 32 from rfl] at q
  go_enter Tryd.func93, Tryd.ntmps93
  go_wp2_with fail
  go_ret
  exact ⟨rfl, rfl⟩

set_option maxRecDepth 100000 in
set_option maxHeartbeats 4000000 in
theorem pu_inner (t : ByteArray) (h8 : t.size = 8) (w : World) : Calls Tryd.prog 73 #[.string t, .int .i64 16, .int .i64 32] w fun e w' => e = .returned (PuR 107 (vlU 0 t.data.toList)) ∧ w' = Lib.bytesWorld w 5 t := by
  have hne : ¬ t = ByteArray.empty := fun e => absurd h8 (by rw [e]; decide)
  have hemp : t.toList.isEmpty = false := by
    rw [← decide_eq_emptyBytes]
    exact decide_eq_false (fun h => hne (by rw [h]))
  have hcv := Lib.run_convert_string_bytes (P := Tryd.prog) w 9 81 5 t (u := .string) Tryd.underlying9 Tryd.underlying81 Tryd.underlying5
  have hB : ∀ j, j < t.size → (Lib.bytesWorld w 5 t).cell? ⟨w.heap.size, j, none⟩ = some (.int .u8 (t.data.toList.getD j 0).toNat) := fun j hj => Lib.bytesWorld_cell w 5 t j hj
  obtain ⟨W1, hW1⟩ : ∃ W1, W1 = Lib.bytesWorld w 5 t := ⟨_, rfl⟩
  rw [← hW1] at hcv hB ⊢
  clear hW1
  obtain ⟨bs, hL⟩ : ∃ bs, bs = t.data.toList := ⟨_, rfl⟩
  have hLn : bs.length = t.size := by rw [hL, Lib.size_eq]
  rw [← hL] at hB ⊢
  clear hL hne
  rw [h8] at hcv hLn hB
  have HLN := Lib.hid hLn
  clear hLn
  go_enter Tryd.func73, Tryd.ntmps73
  go_wp2
  go_loopw [12, 13, 101] (fun vu vn vi wr => ∃ (k acc : Nat) (a : Int), vu = .bool false ∧ vn = .int .u64 a ∧ vi = .int .i64 k ∧ k ≤ 8 ∧ wr = W1 ∧ Hid (a = (acc : Int) ∧ Ps bs k acc)) (fun _ _ vi _ => 8 - (intOf vi).toNat)
  case atStart => exact ⟨0, 0, 0, rfl, rfl, rfl, by omega, rfl, Lib.hid ⟨rfl, Ps.zero bs⟩⟩
  case round =>
    obtain ⟨k, acc, a, rfl, rfl, rfl, hk, rfl, hh⟩ := hrel
    have HA := Lib.hid hh.out.1
    have HP := Lib.hid hh.out.2
    clear hh
    by_cases hkn : k < 8
    · have hlt8 : acc < 268435456 := by
        have h1 := HP.out.lt
        have h2 : 16 ^ k ≤ 16 ^ 7 := Nat.pow_le_pow_right (by decide) (by omega)
        exact Nat.lt_of_lt_of_le h1 (Nat.le_trans h2 (by decide))
      have a0 : 0 ≤ a := by have := HA.out; omega
      have a1 : a < 268435456 := by have := HA.out; omega
      have hc := hB k hkn
      obtain ⟨c, hck⟩ : ∃ c, bs[k]? = some c := ⟨bs[k]'(by have := HLN.out; omega), List.getElem?_eq_getElem _⟩
      have hget : bs.getD k 0 = c := by simp [List.getD, hck]
      rw [hget] at hc
      have HCK := Lib.hid hck
      clear hB hget hck
      obtain ⟨C, hC⟩ : ∃ C, c.toNat = C := ⟨_, rfl⟩
      have hc256 : C < 256 := by rw [← hC]; exact c.toNat_lt
      have HC := Lib.hid hC
      rw [hC] at hc
      clear hC
      obtain ⟨Lo, hLo⟩ : ∃ Lo, C ||| 32 = Lo := ⟨_, rfl⟩
      have HLo := Lib.hid hLo
      clear hLo
      by_cases hdig : 48 ≤ C ∧ C ≤ 57
      · obtain ⟨hd0, hd1⟩ := hdig
        have h95 : ((C : Int) == 95) = false := by rw [beq_eq_false_iff_ne]; omega
        have hN : Hid (a * 16 + ((C : Int) - 48) = ((16 * acc + (C - 48) : Nat) : Int) ∧ Ps bs (k + 1) (16 * acc + (C - 48))) := Lib.hid ⟨by have := HA.out; omega, HP.out.succ HCK.out (by have := dgU_dec (c := c) (by rw [HC.out]; exact hd0) (by rw [HC.out]; exact hd1); rw [HC.out] at this; exact this)⟩
        go_wp2_with fail
        go_roundw
        case rel => exact ⟨k + 1, 16 * acc + (C - 48), a * 16 + ((C : Int) - 48), rfl, by go_num, by go_num, by omega, (by first | rfl | trivial), hN⟩
        case measure => simp [intOf]; omega
      · by_cases hx : 97 ≤ Lo ∧ Lo ≤ 102
        · obtain ⟨hx0, hx1⟩ := hx
          have hN : Hid (a * 16 + ((Lo : Int) - 87) = ((16 * acc + (Lo - 87) : Nat) : Int) ∧ Ps bs (k + 1) (16 * acc + (Lo - 87))) := Lib.hid ⟨by have := HA.out; omega, HP.out.succ HCK.out (by have := dgU_hex (c := c) (by rw [HC.out]; exact hdig) (by rw [HC.out, HLo.out]; exact hx0) (by rw [HC.out, HLo.out]; exact hx1); rw [HC.out, HLo.out] at this; exact this)⟩
          have h95 : ((C : Int) == 95) = false := by
            rw [beq_eq_false_iff_ne]
            intro e
            have e2 : C = 95 := by omega
            have := HLo.out
            rw [e2] at this
            have h127 : Lo = 127 := by rw [← this]; rfl
            omega
          by_cases hlo : 48 ≤ C
          · have hhi : ¬ ((C : Int) ≤ 57) := by omega
            clear hdig
            go_wp2_with (go_at_call 93; refine (lower_any C hc256 _).mono ?_; rw [HLo.out]; rintro e w' ⟨rfl, rfl⟩)
            go_roundw
            case rel => exact ⟨k + 1, 16 * acc + (Lo - 87), a * 16 + ((Lo : Int) - 87), rfl, by go_num, by go_num, by omega, (by first | rfl | trivial), hN⟩
            case measure => simp [intOf]; omega
          · have hlo' : ¬ ((48 : Int) ≤ (C : Int)) := by omega
            clear hdig hlo
            go_wp2_with (go_at_call 93; refine (lower_any C hc256 _).mono ?_; rw [HLo.out]; rintro e w' ⟨rfl, rfl⟩)
            go_roundw
            case rel => exact ⟨k + 1, 16 * acc + (Lo - 87), a * 16 + ((Lo : Int) - 87), rfl, by go_num, by go_num, by omega, (by first | rfl | trivial), hN⟩
            case measure => simp [intOf]; omega
        · have hF : Hid (vlU 0 bs = none) := Lib.hid (Ps.bad HCK.out (dgU_no (by rw [HC.out]; exact hdig) (by rw [HC.out, HLo.out]; exact hx)))
          have HDG := Lib.hid hdig
          have HX := Lib.hid hx
          clear hdig hx
          by_cases e95 : C = 95
          · subst e95
            have e127 : Lo = 127 := HLo.out.symm
            subst e127
            go_wp2_with (go_at_call 93; refine (lower_any 95 hc256 _).mono ?_; rw [HLo.out]; rintro e w' ⟨rfl, rfl⟩)
            go_ret2
            exact ⟨by rw [hF.out]; rfl, rfl⟩
          · have h95 : ((C : Int) == 95) = false := by rw [beq_eq_false_iff_ne]; omega
            clear e95
            by_cases hlo : 48 ≤ C
            · have hhi : ¬ ((C : Int) ≤ 57) := by have := HDG.out; omega
              by_cases hl : 97 ≤ Lo
              · by_cases hh : Lo ≤ 122
                · have hd : 103 ≤ Lo := by have := HX.out; omega
                  go_wp2_with (go_at_call 93; refine (lower_any C hc256 _).mono ?_; rw [HLo.out]; rintro e w' ⟨rfl, rfl⟩)
                  go_ret2
                  exact ⟨by rw [hF.out]; rfl, rfl⟩
                · have hh2 : ¬ ((Lo : Int) ≤ 122) := by omega
                  go_wp2_with (go_at_call 93; refine (lower_any C hc256 _).mono ?_; rw [HLo.out]; rintro e w' ⟨rfl, rfl⟩)
                  go_ret2
                  exact ⟨by rw [hF.out]; rfl, rfl⟩
              · have hl2 : ¬ ((97 : Int) ≤ (Lo : Int)) := by omega
                go_wp2_with (go_at_call 93; refine (lower_any C hc256 _).mono ?_; rw [HLo.out]; rintro e w' ⟨rfl, rfl⟩)
                go_ret2
                exact ⟨by rw [hF.out]; rfl, rfl⟩
            · have hlo' : ¬ ((48 : Int) ≤ (C : Int)) := by omega
              clear hlo
              by_cases hl : 97 ≤ Lo
              · by_cases hh : Lo ≤ 122
                · have hd : 103 ≤ Lo := by have := HX.out; omega
                  go_wp2_with (go_at_call 93; refine (lower_any C hc256 _).mono ?_; rw [HLo.out]; rintro e w' ⟨rfl, rfl⟩)
                  go_ret2
                  exact ⟨by rw [hF.out]; rfl, rfl⟩
                · have hh2 : ¬ ((Lo : Int) ≤ 122) := by omega
                  go_wp2_with (go_at_call 93; refine (lower_any C hc256 _).mono ?_; rw [HLo.out]; rintro e w' ⟨rfl, rfl⟩)
                  go_ret2
                  exact ⟨by rw [hF.out]; rfl, rfl⟩
              · have hl2 : ¬ ((97 : Int) ≤ (Lo : Int)) := by omega
                go_wp2_with (go_at_call 93; refine (lower_any C hc256 _).mono ?_; rw [HLo.out]; rintro e w' ⟨rfl, rfl⟩)
                go_ret2
                exact ⟨by rw [hF.out]; rfl, rfl⟩
    · obtain rfl : k = 8 := by omega
      have HV := Lib.hid (show vlU 0 bs = some acc by have := HP.out.v; rwa [List.take_of_length_le (by rw [HLN.out]; exact Nat.le_refl _)] at this)
      obtain rfl := HA.out
      go_wp2_with fail
      go_ret2
      exact ⟨by rw [HV.out]; rfl, rfl⟩
end Go.Proofs.YtmlocepflcfkmaaDoor
