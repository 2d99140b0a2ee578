/-
  A number read off eight hexadecimal digits: the program's function. Conditions: the text is not too long; Go's table and its error of syntax lie as the library lays them.
-/
import Derived.Test.YtmlocepflcfkmaaDoorPu
import Derived.Test.YtmlocepflcfkmaaDoorNt
import Derived.Test.YtmlocepflcfkmaaDoorFrom
namespace Go.Proofs.YtmlocepflcfkmaaDoor
set_option linter.unusedVariables false
set_option linter.unusedSimpArgs false
open Go.RowKit Mem Dec Hex Rg

/-- What the library hands back. -/
def PuPost (o : Option Nat) (w : World) (e : Ending) (w' : World) : Prop :=
  Kp [] w w' ∧ ((∃ v, o = some v ∧ e = .returned (.tuple #[.int .u64 (v : Int), .nilIface])) ∨ (o = none ∧ ∃ tp p, e = .returned (.tuple #[.int .u64 0, .iface tp p])))

theorem pu_pub (t : ByteArray) (h8 : t.size = 8) (w : World) (he : Errs w) : Calls Tryd.prog 59 #[.string t, .int .i64 16, .int .i64 32] w (PuPost (vlU 0 t.data.toList) w) := by
  have HE := Lib.hid he
  have H8 := Lib.hid h8
  clear he h8
  go_enter Tryd.func59, Tryd.ntmps59
  go_wp2_with fail
  refine (pu_inner t H8.out _).mono ?_
  obtain ⟨o, ho⟩ : ∃ o, vlU 0 t.data.toList = o := ⟨_, rfl⟩
  rw [ho]
  rintro e w1 ⟨rfl, rfl⟩
  have hk := Kp.of_below (Lib.bytesWorld_below w 5 t)
  generalize Lib.bytesWorld w 5 t = w1 at hk
  have K1 := Lib.hid hk
  have HO := Lib.hid ho
  clear hk ho
  cases o with
  | some v =>
    dsimp only [PuR]
    go_wp2_with fail
    go_ret2
    exact ⟨K1.out, .inl ⟨v, HO.out, rfl⟩⟩
  | none =>
    dsimp only [PuR]
    obtain ⟨te, pe, hv⟩ := (HE.out.kp K1.out).syn
    have hcell : w1.cell? ⟨2, 0, none⟩ = some (.iface te pe) := by
      rw [World.var?_cell (by kernel_rfl) hv 0]; rfl
    have HC := Lib.hid hcell
    clear hv hcell
    go_wp2_with fail
    refine (Tryd.strconv_toError_syntax _ t 16 32 (.iface te pe) w1 (by have := H8.out; omega) HC.out (.inr ⟨te, pe, rfl⟩)).mono ?_
    rintro e w2 ⟨N, rfl, _, _, hb⟩
    have K2 := Lib.hid (K1.out.tr (Kp.of_below hb))
    clear hb
    go_wp2_with fail
    go_ret2
    exact ⟨K2.out, .inr ⟨HO.out, _, _, rfl⟩⟩

theorem from_pub (n : Nat) (w : World) : (callFunc 60 #[.int .u32 (n : Int)]).run Tryd.prog w = .ok (.value (.float .f32 n)) w := by
  have := call_from32 (n : Int) w
  rw [Int.toNat_natCast] at this
  exact this

/-- What is read off a part. -/
def UhPost (l : List UInt8) (w : World) (e : Ending) (w' : World) : Prop := ∃ x ok, e = .returned (.tuple #[.float .f32 x, .bool ok]) ∧ One8 l x ok ∧ Kp [] w w'

theorem uh_eq {l : List UInt8} (h8 : l.length = 8) {v : Nat} (hv : vlU 0 l = some v) (h : cbt v = l) : One8 l v true := by
  have hlt := vlU_lt 8 l v h8 hv
  rw [show (16 : Nat) ^ 8 = 4294967296 by decide] at hlt
  have hg := good_bits v hlt
  have h1 := vlH_hexL hg.1
  rw [show hexL (bitsI v).toNat = l from h] at h1
  have h2 := vlU_of l 0 _ h1
  rw [hv] at h2
  have h3 : v = (bitsI v).toNat := Option.some.inj h2
  rw [← h3] at hg h1
  exact One8.yes h8 h1 hg.2
theorem uh_ne {l : List UInt8} {v : Nat} (hv : vlU 0 l = some v) (h : cbt v ≠ l) (x : Nat) : One8 l x false := .inr ⟨rfl, fun m hm e => by
  have h1 := vlH_hexL hm.1
  rw [e] at h1
  have h2 := vlU_of l 0 _ h1
  rw [hv] at h2
  have h3 : v = m := Option.some.inj h2
  subst h3
  apply h
  unfold cbt
  rw [hm.2, Int.toNat_natCast]
  exact e⟩
theorem uh_none {l : List UInt8} (hv : vlU 0 l = none) (x : Nat) : One8 l x false := .inr ⟨rfl, fun m hm e => by
  have h1 := vlH_hexL hm.1
  rw [e] at h1
  have h2 := vlU_of l 0 _ h1
  rw [hv] at h2
  cases h2⟩

set_option maxRecDepth 100000 in
set_option maxHeartbeats 2000000 in
theorem unhex_impl (s : ByteArray) (hs : s.size ≤ 1048576) (W : World) (hd : DeB W) (he : Errs W) : Calls Tryd.prog 38 #[.string s] W (UhPost s.data.toList W) := by
  have HD := Lib.hid hd
  have HE := Lib.hid he
  clear hd he
  by_cases h8 : s.size = 8
  · have H8 := Lib.hid h8
    have q8 : ((s.size : Int) == 8) = true := by rw [h8]; rfl
    have q8' : ((s.size : Int) != 8) = false := by rw [h8]; rfl
    clear h8 hs
    go_enter Tryd.func38, Tryd.ntmps38
    go_wp2_with fail
    refine (pu_pub s H8.out _ HE.out).mono ?_
    rintro e w1 ⟨hk, (⟨v, hv, rfl⟩ | ⟨hv, tp, p, rfl⟩)⟩
    · have K1 := Lib.hid hk
      have HV := Lib.hid hv
      have hlt := vlU_lt 8 _ v H8.out hv
      rw [show (16 : Nat) ^ 8 = 4294967296 by decide] at hlt
      clear hk hv
      have hfr := from_pub v
      obtain ⟨S, hS⟩ : ∃ S : ByteArray, (⟨(cbt v).toArray⟩ : ByteArray) = S := ⟨_, rfl⟩
      have HS := Lib.hid hS
      clear hS
      go_wp2_with fail
      refine (hexi v hlt _ (HD.out.kp K1.out)).mono ?_
      rw [HS.out]
      rintro e w2 ⟨rfl, hk2⟩
      have K2 := Lib.hid (K1.out.tr hk2)
      clear hk2
      have HI := Lib.hid (str_iff (cbt v) s)
      by_cases hq : S = s
      · have HR := Lib.hid (uh_eq H8.out HV.out (HI.out.1 (by rw [HS.out]; exact hq)))
        subst hq
        go_wp2_with fail
        go_ret2
        exact ⟨v, true, rfl, HR.out, K2.out⟩
      · have HR := Lib.hid (uh_ne HV.out (fun h => hq (by rw [← HS.out]; exact HI.out.2 h)) v)
        have q1 := str_neq hq
        go_wp2_with fail
        go_ret2
        exact ⟨v, false, rfl, HR.out, K2.out⟩
    · have K1 := Lib.hid hk
      have HR := Lib.hid (uh_none hv 0)
      clear hk hv
      have hfr : ∀ w, (callFunc 60 #[.int .u32 0]).run Tryd.prog w = .ok (.value (.float .f32 0)) w := fun w => from_pub 0 w
      go_wp2_with fail
      go_ret2
      exact ⟨0, false, rfl, HR.out, K1.out⟩
  · have HR := Lib.hid (One8.len (p := s.data.toList) (by rw [dl_len]; exact h8) 0)
    have q8 : ((s.size : Int) == 8) = false := by rw [beq_eq_false_iff_ne]; omega
    have q8' : ((s.size : Int) != 8) = true := by rw [bne_iff_ne]; omega
    clear h8
    go_enter Tryd.func38, Tryd.ntmps38
    go_wp2_with fail
    go_ret2
    exact ⟨0, false, rfl, HR.out, Kp.refl _⟩
end Go.Proofs.YtmlocepflcfkmaaDoor
