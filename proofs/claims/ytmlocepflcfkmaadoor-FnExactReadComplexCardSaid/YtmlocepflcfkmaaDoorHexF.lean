/-
  strconv's hexadecimal: the walk of formatBits at base 16. Conditions: the number is one of 32 bits; Go's table of trailing zeros lies as the library lays it.
-/
import Derived.Test.YtmlocepflcfkmaaDoorHexS
import Derived.Test.YtmlocepflcfkmaaDoorLaid
import Derived.Laws.Rows
import Derived.Laws.Bits64b
namespace Go.Proofs.YtmlocepflcfkmaaDoor
set_option linter.unusedVariables false
set_option linter.unusedSimpArgs false
open Go.RowKit Mem Dec Hex

def debTab : List Int := [0, 1, 56, 2, 57, 49, 28, 3, 61, 58, 42, 50, 38, 29, 17, 4, 62, 47, 59, 36, 45, 43, 51, 22, 53, 39, 33, 30, 24, 18, 12, 5, 63, 55, 48, 27, 60, 41, 37, 16, 46, 35, 44, 21, 52, 32, 23, 11, 54, 26, 40, 15, 34, 20, 31, 10, 25, 14, 19, 9, 13, 8, 7, 6]
/-- The table's cell that is read. -/
def DeB (w : World) : Prop := w.cell? ⟨6, 15, none⟩ = some (.int .u8 4)
theorem DeB.kp {w w' : World} (h : DeB w) (hk : Kp [] w w') : DeB w' := (hk.cell (World.block_lt_of_cell? _ _ h) (by simp)).trans h
theorem deB_of {l : List (String × DataW Unit)} {W : World} (h : laidMet Tryd.prog (("math/bits.deBruijn64tab", Lib.tabData .u8 debTab) :: l) W) : DeB W := by
  have h1 : Lib.TabIs Tryd.prog W "math/bits.deBruijn64tab" .u8 debTab := Lib.tabIs_of_head (g := 6) (t := 142) (e := 5) (n := 64) (by kernel_rfl) (by kernel_rfl) Tryd.underlying142 Tryd.underlying5 (by kernel_rfl) (by kernel_rfl) h
  exact h1.cell (g := 6) (by kernel_rfl) 15 (by decide)

theorem tz64 (w : World) (h : DeB w) : Calls Tryd.prog 114 #[.int .u64 16] w fun e w' => e = .returned (.int .i64 4) ∧ w = w' := by
  have hc : w.cell? ⟨6, 15, none⟩ = some (.int .u8 4) := h
  have q1 : IntKind.u64.wrap (-16) = 18446744073709551600 := by decide
  have q2 : bits .and .u64 16 18446744073709551600 = 16 := by decide +kernel
  have q3 : IntKind.u64.wrap (16 * 285870213051353865) = 4573923408821661840 := by decide
  have q4 : IntKind.u64.wrap 4573923408821661840 = 4573923408821661840 := by decide
  clear h
  go_enter Tryd.func114, Tryd.ntmps114
  go_wp2_with fail
  go_ret
  exact ⟨rfl, rfl⟩

theorem tz16 (w : World) (h : DeB w) : Calls Tryd.prog 99 #[.int .u64 16] w fun e w' => e = .returned (.int .i64 4) ∧ w = w' := by
  have H := Lib.hid h
  clear h
  go_enter Tryd.func99, Tryd.ntmps99
  go_wp2_with fail
  refine (tz64 _ H.out).mono ?_
  rintro e w' ⟨rfl, rfl⟩
  go_wp2_with fail
  go_ret
  exact ⟨rfl, rfl⟩

theorem ispow16 (w : World) : Calls Tryd.prog 98 #[.int .i64 16] w fun e w' => e = .returned (.bool true) ∧ w = w' := by
  have q2 : bits .and .i64 16 15 = 0 := by decide +kernel
  go_enter Tryd.func98, Tryd.ntmps98
  go_wp2_with fail
  go_ret
  exact ⟨rfl, rfl⟩

theorem u64_and15 (n : Nat) (h : n < 18446744073709551616) : bits .and .u64 (n : Int) 15 = ((n % 16 : Nat) : Int) := by
  have := bits_and_u64_nat n 15 h (by decide)
  rw [show ((15 : Nat) : Int) = 15 from rfl] at this
  rw [this, show (15 : Nat) = 2 ^ 4 - 1 from rfl, Nat.and_two_pow_sub_one_eq_mod]

/-- The buffer: its last bytes are L. -/
structure BufS (W wr : World) (p : Nat) (t : TypeId) (L : List UInt8) : Prop where
  kp : Kp [] W wr
  le : W.heap.size ≤ p
  blk : ∃ arr : Array Value, wr.heap[p]? = some (.cells arr t (0, 0)) ∧ arr.size = 65 ∧ ∀ j u, (bysV L)[j]? = some u → arr[65 - L.length + j]? = some u
section
variable {W wr : World} {p : Nat} {t : TypeId} {L : List UInt8}
theorem BufS.any (h : BufS W wr p t L) (j : Nat) (hj : j < 65) : ∃ u, wr.cell? ⟨p, j, none⟩ = some u := by
  obtain ⟨arr, h1, h2, _⟩ := h.blk
  exact ⟨arr[j], by rw [cell_of_row wr p j arr t (0, 0) h1]; exact Array.getElem?_eq_getElem (by omega)⟩
theorem BufS.fz (h : BufS W wr p t L) (j : Nat) : wr.frozen? ⟨p, j, none⟩ = false := by
  obtain ⟨arr, h1, _, _⟩ := h.blk
  exact frozen_of_row wr p j arr t h1
theorem BufS.push (h : BufS W wr p t L) (hl : L.length < 65) (c : UInt8) : BufS W (wr.setCell ⟨p, 65 - (L.length + 1), none⟩ (.int .u8 (c.toNat : Int))) p t (c :: L) := by
  obtain ⟨arr, h1, h2, h3⟩ := h.blk
  refine ⟨h.kp.new ⟨p, 65 - (L.length + 1), none⟩ h.le _, h.le, _, heap_setCell_same wr p _ arr t _ h1, by simpa using h2, fun j u hu => ?_⟩
  rw [List.length_cons]
  cases j with
  | zero =>
    simp [bysV] at hu
    subst hu
    show (arr.setIfInBounds (65 - (L.length + 1)) (.int .u8 (c.toNat : Int)))[65 - (L.length + 1)]? = _
    rw [Array.getElem?_setIfInBounds]
    simp [h2]
    omega
  | succ j =>
    have hu' : (bysV L)[j]? = some u := by simpa [bysV] using hu
    have := h3 j u hu'
    rw [Array.getElem?_setIfInBounds_ne (by omega), show 65 - (L.length + 1) + (j + 1) = 65 - L.length + j by omega]
    exact this
theorem BufS.str (h : BufS W wr p t L) (hl : L.length ≤ 65) (cap : Nat) : (convert 81 9 (.slice (some ⟨p, 65 - L.length, none⟩) L.length cap)).run Tryd.prog wr = .ok (.string ⟨L.toArray⟩) wr := by
  obtain ⟨arr, h1, h2, h3⟩ := h.blk
  refine run_convert_bytes_back wr _ _ _ ⟨p, 65 - L.length, none⟩ cap L Tryd.underlying81 Tryd.underlying5 Tryd.underlying9 (fun j hj => ?_)
  have e : (⟨p, 65 - L.length, none⟩ : Addr).add j = ⟨p, 65 - L.length + j, none⟩ := by unfold Addr.add; split <;> simp_all
  rw [e, cell_of_row wr p _ arr t (0, 0) h1]
  exact h3 j _ (by unfold bysV; rw [List.getElem?_map, List.getElem?_eq_getElem hj]; rfl)
end

theorem sl65 (p i k : Nat) (hi : 1 ≤ i) (hk : i + k = 65) (w : World) : (Instr.sliceAt 117 (.pointer (some ⟨p, 0, none⟩)) (some (.int .i64 ((i : Int) - 1))) none none).run Tryd.prog w = .ok (.slice (some ⟨p, i - 1, none⟩) (k + 1) (k + 1)) w := by
  have hal : Tryd.prog.arrayLen 117 = 65 := by simp [Program.arrayLen, Tryd.underlying117]
  rw [run_sliceAt_array_l w 117 ⟨p, 0, none⟩ (by simp [Program.arrayLen, Program.elem, Tryd.underlying117]) .i64 ((i : Int) - 1) (by omega) (by rw [hal]; omega)]
  rw [hal]
  go_simp
  trace_state
  omega

/-- What is written: the digits, as many as are needed. -/
def HxPost (N : Nat) (W : World) (mk : Value → Value) (e : Ending) (w' : World) : Prop := ∃ K, 1 ≤ K ∧ K ≤ 8 ∧ N < 16 ^ K ∧ e = .returned (mk (.string ⟨(hxk K N).toArray⟩)) ∧ Kp [] W w'

set_option maxRecDepth 100000 in
set_option maxHeartbeats 4000000 in
theorem fbits (N : Nat) (hN : N < 4294967296) (W : World) (hd : DeB W) : Calls Tryd.prog 77 #[.slice none 0 0, .int .u64 (N : Int), .int .i64 16, .bool false, .bool false] W (HxPost N W (fun v => .tuple #[.slice none 0 0, v])) := by
  have H := Lib.hid hd
  clear hd
  go_enter Tryd.func77, Tryd.ntmps77
  go_wp2_with fail
  refine (ispow16 _).mono ?_
  rintro e w1 ⟨rfl, rfl⟩
  go_wp2_with fail
  refine (tz16 _ (H.out.kp ((Kp.refl _).alloc _))).mono ?_
  rintro e w1 ⟨rfl, rfl⟩
  go_wp2_with fail
  have hzs : (Tryd.zeroCells117).size = 65 := by kernel_rfl
  have B0 : BufS W (W.alloc (.cells Tryd.zeroCells117 117)) W.heap.size 117 [] := ⟨(Kp.refl W).alloc _, Nat.le_refl _, _, heap_alloc_new W _, hzs, fun j u hu => by simp [bysV] at hu⟩
  have S0 := Lib.hid B0
  clear B0 hzs
  go_loopw [1, 13] (fun u i wr => ∃ (k i' : Nat), k ≤ 7 ∧ i' + k = 65 ∧ u = .int .u64 ((N / 16 ^ k : Nat) : Int) ∧ i = .int .i64 (i' : Int) ∧ Hid (BufS W wr W.heap.size 117 (hxk k N))) (fun _ i _ => (intOf i).toNat)
  case atStart => exact ⟨0, 65, by omega, by omega, by simp, rfl, S0⟩
  case round =>
    obtain ⟨k, i, hk, hik, rfl, rfl, HS⟩ := hrel
    obtain ⟨U, hU⟩ : ∃ U, N / 16 ^ k = U := ⟨_, rfl⟩
    have hUN : U ≤ N := by rw [← hU]; exact Nat.div_le_self _ _
    have HU := Lib.hid hU
    have HL := Lib.hid (hxk_len k N)
    rw [hU]
    clear hU
    have i0 : (0 : Int) ≤ (i : Int) - 1 := by omega
    have i1 : (i : Int) - 1 < 65 := by omega
    have i2 : ¬ ((i : Int) < 1) := by omega
    obtain ⟨c, hcell⟩ := HS.out.any (i - 1) (by omega)
    have hfz := HS.out.fz (i - 1)
    have HF := Lib.hid (hxk_front k N)
    by_cases hge : (16 : Int) ≤ (U : Int)
    · have hk6 : k + 1 ≤ 7 := by
        rcases Nat.lt_or_ge k 7 with h | h
        · omega
        · have e7 : k = 7 := by omega
          subst e7
          have := HU.out
          have : U < 16 := by rw [← HU.out]; exact Nat.div_lt_of_lt_mul (by omega)
          omega
      have hand := u64_and15 U (by omega)
      obtain ⟨D, hD, HDD⟩ : ∃ D : Nat, D < 16 ∧ Hid (U % 16 = D) := ⟨_, Nat.mod_lt _ (by decide), Lib.hid rfl⟩
      rw [HDD.out] at hand
      have hix := dig_at36 D hD
      have HB2 := Lib.hid (show BufS W (wr.setCell ⟨W.heap.size, i - 1, none⟩ (.int .u8 ((hdg D).toNat : Int))) W.heap.size 117 (hxk (k + 1) N) by
        rw [HF.out, HU.out, HDD.out]
        have := HS.out.push (by rw [HL.out]; omega) (hdg D)
        rw [HL.out, show 65 - (k + 1) = i - 1 by omega] at this
        exact this)
      have HU2 := Lib.hid (show N / 16 ^ (k + 1) = U / 16 by rw [Nat.pow_succ, ← Nat.div_div_eq_div_mul, HU.out])
      go_wp2_with fail
      go_roundw
      case rel => exact ⟨k + 1, i - 1, by omega, by omega, by rw [HU2.out]; rfl, by go_num, HB2⟩
      case measure => simp [intOf]; omega
    · have hU16 : U < 16 := by omega
      have hix := dig_at36 U hU16
      have HB2 := Lib.hid (show BufS W (wr.setCell ⟨W.heap.size, i - 1, none⟩ (.int .u8 ((hdg U).toNat : Int))) W.heap.size 117 (hxk (k + 1) N) by
        rw [HF.out, HU.out, Nat.mod_eq_of_lt hU16]
        have := HS.out.push (by rw [HL.out]; omega) (hdg U)
        rw [HL.out, show 65 - (k + 1) = i - 1 by omega] at this
        exact this)
      have hst := HB2.out.str (by rw [hxk_len]; omega) (k + 1)
      rw [hxk_len, show 65 - (k + 1) = i - 1 by omega] at hst
      have HNK := Lib.hid (show N < 16 ^ (k + 1) by
        have h1 : N / 16 ^ k < 16 := by rw [HU.out]; exact hU16
        have h2 := (Nat.div_lt_iff_lt_mul (Nat.pow_pos (by decide) : 0 < 16 ^ k)).1 h1
        rw [Nat.pow_succ, Nat.mul_comm]; exact h2)
      have hsl := sl65 W.heap.size i k (by omega) hik
      go_wp2_with fail
      go_ret2
      exact ⟨k + 1, by omega, by omega, HNK.out, rfl, HB2.out.kp⟩
end Go.Proofs.YtmlocepflcfkmaaDoor
