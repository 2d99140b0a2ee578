/-
  TrimScale: the rows whose rate is not that of the row ahead. Conditions: the slices read as lists that are not too long.
-/
import Derived.Test.YtloffnamjgnkhaaTrimR
import Derived.Test.YtloffnamjgnkhaaValidI
import Derived.Deep.RegionHeld3
import Derived.Deep.AppendLies
import Derived.Deep.QuietTactic
import Derived.BigQuiet
namespace Go.Proofs.Ytloffnamjgnkhaa
open Go.RowKit Mem
open Go.Proofs.Ytloffnamjgnkhaa.Inv Flo
set_option linter.unusedSimpArgs false

/-- What k rows leave. -/
def trK (bs rs : List Int) : Nat → List Int × List Int
  | 0 => ([], [])
  | k + 1 => if k = 0 ∨ rs.getD k 0 ≠ rs.getD (k - 1) 0 then ((trK bs rs k).1 ++ [bs.getD k 0], (trK bs rs k).2 ++ [rs.getD k 0]) else trK bs rs k
theorem trK_len (bs rs : List Int) : ∀ k, (trK bs rs k).1.length ≤ k ∧ (trK bs rs k).2.length ≤ k
  | 0 => ⟨Nat.le_refl _, Nat.le_refl _⟩
  | k + 1 => by
    have := trK_len bs rs k
    unfold trK
    split
    · simp; omega
    · omega
theorem trK_yes {bs rs : List Int} {k : Nat} (h : k = 0 ∨ rs.getD k 0 ≠ rs.getD (k - 1) 0) : trK bs rs (k + 1) = ((trK bs rs k).1 ++ [bs.getD k 0], (trK bs rs k).2 ++ [rs.getD k 0]) := by
  rw [trK, if_pos h]
theorem trK_no {bs rs : List Int} {k : Nat} (h : ¬ (k = 0 ∨ rs.getD k 0 ≠ rs.getD (k - 1) 0)) : trK bs rs (k + 1) = trK bs rs k := by
  rw [trK, if_neg h]
/-- The state of the loop: the boxes of the argument, the result and what is gathered. -/
structure TrS (w wr : World) (p : Nat) (A : Option Addr) (n c : Nat) (B : Option Addr) (m d : Nat) (A1 : Option Addr) (c1 : Nat) (B1 : Option Addr) (d1 : Nat) (xs ys : List Int) : Prop where
  k : Kp [] w wr
  arg : Fx wr w.heap.size 27 (.slice A n c) (.slice B m d)
  res : Fx wr (w.heap.size + 1) 27 (.slice none 0 0) (.slice none 0 0)
  acc : Fx wr p 27 (.slice A1 xs.length c1) (.slice B1 ys.length d1)
  own : Own2 (p + 1) wr A1 xs.length c1 B1 ys.length d1 xs ys
  pos : w.heap.size + 2 ≤ p

theorem TrS.kp {w wr wr' : World} {p : Nat} {A : Option Addr} {n c : Nat} {B : Option Addr} {m d : Nat} {A1 : Option Addr} {c1 : Nat} {B1 : Option Addr} {d1 : Nat} {xs ys : List Int} (h : TrS w wr p A n c B m d A1 c1 B1 d1 xs ys) (hk : Kp [] wr wr') : TrS w wr' p A n c B m d A1 c1 B1 d1 xs ys :=
  ⟨h.k.tr hk, h.arg.kp hk, h.res.kp hk, h.acc.kp hk, h.own.kp0 hk, h.pos⟩
/-- What has been gathered turns. -/
theorem TrS.step {w wr wr' : World} {p : Nat} {A : Option Addr} {n c : Nat} {B : Option Addr} {m d : Nat} {A1 : Option Addr} {c1 : Nat} {B1 : Option Addr} {d1 : Nat} {xs ys : List Int} (h : TrS w wr p A n c B m d A1 c1 B1 d1 xs ys)
    {T : List Nat} (hk : Kp T wr wr') (hT : ∀ t ∈ T, p ≤ t) {A2 : Option Addr} {n2 c2 : Nat} {B2 : Option Addr} {m2 d2 : Nat} {xs2 ys2 : List Int} (ha : Fx wr' p 27 (.slice A2 n2 c2) (.slice B2 m2 d2)) (ho : Own2 (p + 1) wr' A2 n2 c2 B2 m2 d2 xs2 ys2) :
    TrS w wr' p A n c B m d A2 c2 B2 d2 xs2 ys2 := by
  have h1 := ho.len1
  have h2 := ho.len2
  subst h1 h2
  have hp := h.pos
  exact ⟨h.k.later hk (fun t ht => by have := hT t ht; omega), h.arg.keep hk (fun hh => by have := hT _ hh; omega), h.res.keep hk (fun hh => by have := hT _ hh; omega), ha, ho, hp⟩

set_option maxRecDepth 100000 in
set_option maxHeartbeats 1000000 in
theorem trim_spec (A : Option Addr) (n c : Nat) (bs : List Int) (B : Option Addr) (m d : Nat) (rs : List Int) (w : World) (h : Sl w A n (valsI bs)) (h2 : Sl w B m (valsI rs)) (hn : n ≤ 1048576) (hm : m ≤ 1048576) :
    Calls Try.prog 27 #[.agg #[.slice A n c, .slice B m d]] w (SPost (whenP (OkS bs rs) (trK bs rs bs.length).1) (whenP (OkS bs rs) (trK bs rs bs.length).2) (okb (OkS bs rs)) w) := by
  have HA := Lib.hid h
  have HB := Lib.hid h2
  clear h h2
  obtain ⟨i0, hi0, hz0, hz1, hz2⟩ := info_parts (show (Try.prog.info? 2).map (fun i => (i.zero, i.size, i.bytes)) = some (some (.int .i64 0), 1, 8) by kernel_rfl)
  have hF := (Fx.new w 27 (.slice A n c) (.slice B m d)).kp ((Kp.refl _).alloc (.cells #[.slice none 0 0, .slice none 0 0] 27))
  have hR : Fx ((w.alloc (.cells #[.slice A n c, .slice B m d] 27)).alloc (.cells #[.slice none 0 0, .slice none 0 0] 27)) (w.heap.size + 1) 27 (.slice none 0 0) (.slice none 0 0) := by simpa using Fx.new (w.alloc (.cells #[.slice A n c, .slice B m d] 27)) 27 (.slice none 0 0) (.slice none 0 0)
  have hk0 := ((Kp.refl w).alloc (.cells #[.slice A n c, .slice B m d] 27)).alloc (.cells #[.slice none 0 0, .slice none 0 0] 27)
  have F0 := Lib.hid hF
  have R0 := Lib.hid hR
  have K0 := Lib.hid hk0
  clear hF hR hk0
  go_enter Try.func27, Try.ntmps27
  go_wp2_with fail
  refine (is_tell A n c bs B m d rs w.heap.size _ F0.out.c0 F0.out.c1 (by exact HA.out.kp K0.out) (by exact HB.out.kp K0.out) hn hm).mono ?_
  rintro e w1 ⟨b, rfl, hb, hk1⟩
  have K1 := Lib.hid (K0.out.tr hk1)
  have F1 := Lib.hid (F0.out.kp hk1)
  have R1 := Lib.hid (R0.out.kp hk1)
  clear hk1 F0 R0 K0
  cases b
  · have HO : ¬ OkS bs rs := fun hh => by have := hb.2 hh; cases this
    have HN := Lib.hid HO
    clear hb HO
    have c0 := R1.out.c0
    have c1 := R1.out.c1
    have f0 := R1.out.f 0
    have f1 := R1.out.f 1
    go_wp2_with fail
    refine bodyPost_ret (v := .tuple #[.agg #[.slice none 0 0, .slice none 0 0], .bool false]) ?_ rfl (SPost.no HN.out ?_)
    · simp [results, Try.results27, go_sem, *]
    · exact (K1.out.setNew _ (by omega) _ _).setNew _ (by omega) _ _
  · have HO := Lib.hid (hb.1 rfl)
    have HL := Lib.hid (HO.out.lr)
    clear hb
    have c0 := F1.out.c0
    have c1 := F1.out.c1
    go_wp2_with fail
    go_loopw [5] (fun i wr => ∃ (k : Nat) (A1 : Option Addr) (c1 : Nat) (B1 : Option Addr) (d1 : Nat), k ≤ n ∧ i = .int .i64 k ∧ Hid (TrS w wr w1.heap.size A n c B m d A1 c1 B1 d1 (trK bs rs k).1 (trK bs rs k).2)) (fun i _ => n - (intOf i).toNat)
    case atStart =>
      refine ⟨0, none, 0, none, 0, Nat.zero_le _, rfl, Lib.hid ⟨K1.out.alloc _, F1.out.kp ((Kp.refl _).alloc _), R1.out.kp ((Kp.refl _).alloc _), Fx.new _ _ _ _, Own2.nil _ _, R1.out.lt⟩⟩
    case round =>
      obtain ⟨k, A1, k1, B1, k2, hk, rfl, HS⟩ := hrel
      have a0 := HS.out.arg.c0
      have a1 := HS.out.arg.c1
      have b0 := HS.out.acc.c0
      have b1 := HS.out.acc.c1
      have fb0 := HS.out.acc.f 0
      have fb1 := HS.out.acc.f 1
      have lb := HS.out.acc.lt
      have HL1 := Lib.hid HO.out.l8
      have HL2 := Lib.hid HO.out.lr
      have HL3 := Lib.hid (show bs.length = n by rw [← valsI_len, HA.out.len])
      have HL4 := Lib.hid (show rs.length = m by rw [← valsI_len, HB.out.len])
      have hpos := HS.out.pos
      have hlt1 := (trK_len bs rs k).1
      have hlt2 := (trK_len bs rs k).2
      by_cases hlt : k < n
      · obtain ⟨b, off, x, eA, hb, HX, hcx⟩ := slI_at HA.out hlt
        obtain ⟨b2, off2, y, eB, hb2, HY, hcy⟩ := slI_at HB.out (k := k) (by have := HL2.out; have := HL3.out; have := HL4.out; omega)
        have hkm : (k : Int) < (m : Int) := by have := HL2.out; have := HL3.out; have := HL4.out; omega
        replace hcx := (HS.out.k.cell (p := ⟨b, off + k, none⟩) hb (by simp)).trans hcx
        replace hcy := (HS.out.k.cell (p := ⟨b2, off2 + k, none⟩) hb2 (by simp)).trans hcy
        subst eA eB
        by_cases hz : k = 0
        · have hz' : ((k : Int) == 0) = true := by subst hz; rfl
          have hkeep : k = 0 ∨ rs.getD k 0 ≠ rs.getD (k - 1) 0 := .inl hz
          go_wp2_with fail
          go_quiet (fail)
          go_wp2_with fail
          clear a0 a1 b0 b1 fb0 fb1
          refine tr8 (p := w1.heap.size) (q := w.heap.size) (b := b) (off := off) (k := k) (x := x) (xs := (trK bs rs k).1) (ys := (trK bs rs k).2) (N := n) (C := c) rfl rfl rfl rfl (by exact (HS.out.kp (Kp.of_draw _)).arg) (by exact (HS.out.kp (Kp.of_draw _)).acc) (by exact (HS.out.kp (Kp.of_draw _)).own) hcx hlt hn (by omega) (by omega) (by omega) ?_
          intro f g cap w2 T hT hT2 ac2 ow2
          have S2 := Lib.hid ((HS.out.kp (Kp.of_draw _)).step hT hT2 ac2 ow2)
          have hcy2 : w2.cell? ⟨b2, off2 + k, none⟩ = some (.int .i64 y) := (hT.cell (p := ⟨b2, off2 + k, none⟩) (by exact Nat.lt_of_lt_of_le hb2 (HS.out.kp (Kp.of_draw _)).k.size) (fun hh => by have := hT2 _ hh; simp only at this; omega)).trans hcy
          clear hT hT2 ac2 ow2 hcx hcy
          simp only [putAll, tr8Ops, Act.put, List.setIfInBounds_toArray, List.set_cons_succ, List.set_cons_zero, Option.getD_some, Option.getD_none]
          go_wp2_with fail
          refine tr9 (p := w1.heap.size) (q := w.heap.size) (b := b2) (off := off2) (k := k) (x := y) (xs := (trK bs rs k).1 ++ [x]) (ys := (trK bs rs k).2) (N := m) (C := d) rfl rfl rfl rfl S2.out.arg S2.out.acc S2.out.own hcy2 (by omega) hm (by omega) (by omega) (by omega) ?_
          intro f2 g2 cap2 w3 T hT hT2 ac2 ow2
          have S3 := Lib.hid (S2.out.step hT hT2 ac2 ow2)
          clear hT hT2 ac2 ow2 hcy2 S2
          simp only [putAll, tr9Ops, Act.put, List.setIfInBounds_toArray, List.set_cons_succ, List.set_cons_zero, Option.getD_some, Option.getD_none]
          have R3 := Lib.hid (show TrS w w3 w1.heap.size _ n c _ m d _ cap _ cap2 (trK bs rs (k + 1)).1 (trK bs rs (k + 1)).2 by rw [trK_yes hkeep, getD_of HX, getD_of HY]; exact S3.out)
          clear S3
          go_wp2_with fail
          go_roundw
          case rel => exact ⟨k + 1, _, _, _, _, by omega, by go_num, R3⟩
          case measure => simp [intOf]; omega
        · obtain ⟨b3, off3, z, e3, hb3, HZ, hcz⟩ := slI_at HB.out (k := k - 1) (by omega)
          injection e3 with e3
          injection e3 with e3 e4
          subst e3
          subst e4
          replace hcz := (HS.out.k.cell (p := ⟨b2, off2 + (k - 1), none⟩) hb2 (by simp)).trans hcz
          have hz' : ((k : Int) == 0) = false := by rw [beq_eq_false_iff_ne]; omega
          have i0 : (0 : Int) ≤ (k : Int) - 1 := by omega
          have i1 : (k : Int) - 1 < (m : Int) := by omega
          by_cases e : y = z
          · subst e
            have hno : ¬ (k = 0 ∨ rs.getD k 0 ≠ rs.getD (k - 1) 0) := by rw [getD_of HY, getD_of HZ]; simp; exact hz
            go_wp2_with fail
            go_quiet (fail)
            have R3 := Lib.hid (show TrS w _ w1.heap.size _ n c _ m d A1 k1 B1 k2 (trK bs rs (k + 1)).1 (trK bs rs (k + 1)).2 by rw [trK_no hno]; exact HS.out.kp (Kp.of_draw nq))
            go_wp2_with fail
            go_roundw
            case rel => exact ⟨k + 1, _, _, _, _, by omega, by go_num, R3⟩
            case measure => simp [intOf]; omega
          · have e' : (y == z) = false := beq_eq_false_iff_ne.2 e
            have e'' : (y != z) = true := bne_iff_ne.2 e
            have hkeep : k = 0 ∨ rs.getD k 0 ≠ rs.getD (k - 1) 0 := .inr (by rw [getD_of HY, getD_of HZ]; exact e)
            go_wp2_with fail
            go_quiet (fail)
            go_wp2_with fail
            clear a0 a1 b0 b1 fb0 fb1
            refine tr8 (p := w1.heap.size) (q := w.heap.size) (b := b) (off := off) (k := k) (x := x) (xs := (trK bs rs k).1) (ys := (trK bs rs k).2) (N := n) (C := c) rfl rfl rfl rfl (by exact (HS.out.kp (Kp.of_draw _)).arg) (by exact (HS.out.kp (Kp.of_draw _)).acc) (by exact (HS.out.kp (Kp.of_draw _)).own) hcx hlt hn (by omega) (by omega) (by omega) ?_
            intro f g cap w2 T hT hT2 ac2 ow2
            have S2 := Lib.hid ((HS.out.kp (Kp.of_draw _)).step hT hT2 ac2 ow2)
            have hcy2 : w2.cell? ⟨b2, off2 + k, none⟩ = some (.int .i64 y) := (hT.cell (p := ⟨b2, off2 + k, none⟩) (by exact Nat.lt_of_lt_of_le hb2 (HS.out.kp (Kp.of_draw _)).k.size) (fun hh => by have := hT2 _ hh; simp only at this; omega)).trans hcy
            clear hT hT2 ac2 ow2 hcx hcy hcz
            simp only [putAll, tr8Ops, Act.put, List.setIfInBounds_toArray, List.set_cons_succ, List.set_cons_zero, Option.getD_some, Option.getD_none]
            go_wp2_with fail
            refine tr9 (p := w1.heap.size) (q := w.heap.size) (b := b2) (off := off2) (k := k) (x := y) (xs := (trK bs rs k).1 ++ [x]) (ys := (trK bs rs k).2) (N := m) (C := d) rfl rfl rfl rfl S2.out.arg S2.out.acc S2.out.own hcy2 (by omega) hm (by omega) (by omega) (by omega) ?_
            intro f2 g2 cap2 w3 T hT hT2 ac2 ow2
            have S3 := Lib.hid (S2.out.step hT hT2 ac2 ow2)
            clear hT hT2 ac2 ow2 hcy2 S2
            simp only [putAll, tr9Ops, Act.put, List.setIfInBounds_toArray, List.set_cons_succ, List.set_cons_zero, Option.getD_some, Option.getD_none]
            have R3 := Lib.hid (show TrS w w3 w1.heap.size _ n c _ m d _ cap _ cap2 (trK bs rs (k + 1)).1 (trK bs rs (k + 1)).2 by rw [trK_yes hkeep, getD_of HX, getD_of HY]; exact S3.out)
            clear S3
            go_wp2_with fail
            go_roundw
            case rel => exact ⟨k + 1, _, _, _, _, by omega, by go_num, R3⟩
            case measure => simp [intOf]; omega
      · obtain rfl : n = k := by omega
        have r0 := HS.out.res.c0
        have r1 := HS.out.res.c1
        have fr0 := HS.out.res.f 0
        have fr1 := HS.out.res.f 1
        go_wp2_with fail
        refine bodyPost_ret (v := .tuple #[.agg #[.slice A1 (trK bs rs n).1.length k1, .slice B1 (trK bs rs n).2.length k2], .bool true]) ?_ rfl ?_
        · simp [results, Try.results27, go_sem, *]
        · rw [HL3.out]
          have hkk := ((Kp.refl wr).set (w.heap.size + 1) 0 (.slice A1 (trK bs rs n).1.length k1)).set (w.heap.size + 1) 1 (.slice B1 (trK bs rs n).2.length k2)
          exact SPost.yes HO.out ((HS.out.k.setNew _ (by omega) _ _).setNew _ (by omega) _ _) ((HS.out.own.kp hkk (by
            intro t ht hh
            have := (HS.out.own.lt t ht).1
            simp at hh
            omega)).mono (by omega))
end Go.Proofs.Ytloffnamjgnkhaa
