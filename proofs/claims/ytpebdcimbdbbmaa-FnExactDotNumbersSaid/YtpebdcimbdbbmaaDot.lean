/-
  The sum of products of two lists of float32: the reference's and the program's functions give numbers that are told alike. Conditions: the slices read as lists of floats that are not too long.
-/
import Derived.Test.YtpebdcimbdbbmaaSum
import Derived.Test.YtpebdcimbdbbmaaTypedB
namespace Go.Proofs.Ytpebdcimbdbbmaa
open Go.RowKit Mem Flo

/-- The sum of the first k products. -/
def dotV (zs ys : List Nat) : Nat → Option Nat
  | 0 => some 0
  | k + 1 => ar .add .f32 (dotV zs ys k) (ar .mul .f32 (tell .f32 (zs.getD k 0)) (tell .f32 (ys.getD k 0)))
theorem dotV_succ {zs ys : List Nat} {k x y : Nat} (hx : Hid (zs[k]? = some x)) (hy : Hid (ys[k]? = some y)) : dotV zs ys (k + 1) = ar .add .f32 (dotV zs ys k) (ar .mul .f32 (tell .f32 x) (tell .f32 y)) := by
  show ar .add .f32 (dotV zs ys k) (ar .mul .f32 (tell .f32 (zs.getD k 0)) (tell .f32 (ys.getD k 0))) = _
  rw [show zs.getD k 0 = x by simp [List.getD, hx.out], show ys.getD k 0 = y by simp [List.getD, hy.out]]
/-- The value of the sum of products, where the lists fit. -/
def dotR (zs ys : List Nat) : Option Nat := if zs.length ≤ 256 ∧ zs.length = ys.length then dotV zs ys zs.length else some 0
def dotB (n m : Nat) : Bool := decide (n ≤ 256) && (n == m)

/-- What may lie in the slots of the round. -/
def dotT (b off b2 off2 n c m d k x y : Nat) (s : Nat) (S X Y : Option Nat) (t : Nat) (v : Value) (_w : World) : Prop :=
  match t with
  | 13 => v = .float .f32 s
  | 14 => v = .slice (some ⟨b, off, none⟩) n c
  | 18 => v = .slice (some ⟨b2, off2, none⟩) m d
  | 15 | 19 => v = .int .i64 (k : Int)
  | 16 => v = .pointer (some ⟨b, off + k, none⟩)
  | 20 => v = .pointer (some ⟨b2, off2 + k, none⟩)
  | 17 => v = .float .f32 x
  | 21 => v = .float .f32 y
  | 22 => ∃ r, v = .float .f32 r ∧ Rep .f32 (ar .mul .f32 X Y) r
  | 23 | 5 => ∃ r, v = .float .f32 r ∧ Rep .f32 (ar .add .f32 S (ar .mul .f32 X Y)) r
  | _ => True

set_option maxHeartbeats 2000000 in
theorem dotl_spec (A : Option Addr) (n c : Nat) (zs : List Nat) (B : Option Addr) (d : Nat) (ys : List Nat) (w : World) (h : Sl w A n (valsF zs)) (h2 : Sl w B n (valsF ys)) (hn : n ≤ 256) (hf : AllF zs) (hg : AllF ys) :
    Calls Try.prog 65 #[.slice A n c, .slice B n d] w fun e w' => ∃ r, e = .returned (.float .f32 r) ∧ Rep .f32 (dotV zs ys n) r ∧ ∃ q, w' = w.drewN q := by
  have HA := Lib.hid h
  have HB := Lib.hid h2
  clear h h2
  go_enter Try.func65, Try.ntmps65
  go_wp2
  go_loopw [6, 5] (fun i o wr => ∃ (k q s : Nat), k ≤ n ∧ i = .int .i64 k ∧ o = .float .f32 s ∧ wr = w.drewN q ∧ Rep .f32 (dotV zs ys k) s) (fun i _ _ => n - (intOf i).toNat)
  case atStart => exact ⟨0, 0, 0, Nat.zero_le _, rfl, rfl, rfl, rep_zero⟩
  case round =>
    obtain ⟨k, q, s, hk, rfl, rfl, rfl, HS0⟩ := hrel
    by_cases hlt : k < n
    · obtain ⟨b, off, x, rfl, hb, HX, hcx⟩ := slF_at HA.out hlt
      obtain ⟨b2, off2, y, rfl, hb2, HY, hcy⟩ := slF_at HB.out hlt
      have hr := hf.at_ HX
      have hr2 := hg.at_ HY
      have HE := Lib.hid (dotV_succ HX HY)
      go_wp2
      refine wp_region_typedB (by kernel_rfl) (by kernel_rfl) rfl Dr (dotT b off b2 off2 n c n d k x y s (dotV zs ys k) (tell .f32 x) (tell .f32 y)) Dr.refl Dr.trans Dr.drew (fun s v w1 w2 _ h => h) ?_ ?_
      · refine ⟨fun a w' hk hl => ?_, fun a w' hk hl => ?_, fun a w' hk hl => ?_, fun a w' hk hl => ?_, fun a w' hk hl => ?_, fun a w' hk hl => ?_, fun a w' hk hl => ?_, fun a w' hk hl => ?_, fun a w' hk hl => ?_, fun a w' hk hl => ?_, fun a w' hk hl => ?_, fun a w' hk hl => ?_, trivial⟩
        · have e1 : a.eval (.tmp 5) = .float .f32 s := hl.1
          refine pure_step Dr.refl rfl (v := .float .f32 s) ?_ rfl
          simp only [execOp, e1]; rfl
        · have e1 : a.eval (.tmp 0) = .slice (some ⟨b, off, none⟩) n c := hl.1
          refine pure_step Dr.refl rfl (v := .slice (some ⟨b, off, none⟩) n c) ?_ rfl
          simp only [execOp, e1]; rfl
        · have e1 : a.eval (.tmp 6) = .int .i64 (k : Int) := hl.1
          refine pure_step Dr.refl rfl (v := .int .i64 (k : Int)) ?_ rfl
          simp only [execOp, e1]; rfl
        · have e1 : a.eval (.tmp 14) = .slice (some ⟨b, off, none⟩) n c := hl.1
          have e2 : a.eval (.tmp 15) = .int .i64 (k : Int) := hl.2.1
          refine pure_step Dr.refl rfl (v := .pointer (some ⟨b, off + k, none⟩)) ?_ rfl
          clear hl hcx hcy hk
          simp only [execOp, e1, e2]
          go_simp
        · have e1 : a.eval (.tmp 16) = .pointer (some ⟨b, off + k, none⟩) := hl.1
          obtain ⟨nn, rfl⟩ := hk
          refine pure_step Dr.refl rfl (v := .float .f32 x) ?_ rfl
          clear hl hcy
          simp only [execOp, e1]
          go_simp
        · have e1 : a.eval (.tmp 1) = .slice (some ⟨b2, off2, none⟩) n d := hl.1
          refine pure_step Dr.refl rfl (v := .slice (some ⟨b2, off2, none⟩) n d) ?_ rfl
          simp only [execOp, e1]; rfl
        · have e1 : a.eval (.tmp 6) = .int .i64 (k : Int) := hl.1
          refine pure_step Dr.refl rfl (v := .int .i64 (k : Int)) ?_ rfl
          simp only [execOp, e1]; rfl
        · have e1 : a.eval (.tmp 18) = .slice (some ⟨b2, off2, none⟩) n d := hl.1
          have e2 : a.eval (.tmp 19) = .int .i64 (k : Int) := hl.2.1
          refine pure_step Dr.refl rfl (v := .pointer (some ⟨b2, off2 + k, none⟩)) ?_ rfl
          clear hl hcx hcy hk
          simp only [execOp, e1, e2]
          go_simp
        · have e1 : a.eval (.tmp 20) = .pointer (some ⟨b2, off2 + k, none⟩) := hl.1
          obtain ⟨nn, rfl⟩ := hk
          refine pure_step Dr.refl rfl (v := .float .f32 y) ?_ rfl
          clear hl hcx
          simp only [execOp, e1]
          go_simp
        · have e1 : a.eval (.tmp 17) = .float .f32 x := hl.1
          have e2 : a.eval (.tmp 21) = .float .f32 y := hl.2.1
          obtain ⟨r, nn, hrun, hrr⟩ := run_ar (P := Try.prog) w' (op := .mul) rfl 22 hr hr2
          refine draw_step rfl (v := .float .f32 r) (w2 := w'.drewN nn) ?_ ⟨nn, rfl⟩ ⟨r, rfl, hrr⟩
          have hgd := run_eqGuard_float (P := Try.prog) (w := w') .mul 22 (.tmp 17) (.tmp 21) .f32 x y
          clear hl hcx hcy
          simp only [execOp, e1, e2]
          simp [hrun, hgd]
        · have e1 : a.eval (.tmp 13) = .float .f32 s := hl.1
          obtain ⟨r1, e2, hr1⟩ := hl.2.1
          have e2 : a.eval (.tmp 22) = .float .f32 r1 := e2
          obtain ⟨r, nn, hrun, hrr⟩ := run_ar (P := Try.prog) w' (op := .add) rfl 22 HS0 hr1
          refine draw_step rfl (v := .float .f32 r) (w2 := w'.drewN nn) ?_ ⟨nn, rfl⟩ ⟨r, rfl, hrr⟩
          have hgd := run_eqGuard_float (P := Try.prog) (w := w') .add 22 (.tmp 13) (.tmp 22) .f32 s r1
          clear hl hcx hcy
          simp only [execOp, e1, e2]
          simp [hrun, hgd]
        · obtain ⟨r, e1, hrr⟩ := hl.1
          have e1 : a.eval (.tmp 23) = .float .f32 r := e1
          refine pure_step Dr.refl rfl (v := .float .f32 r) ?_ ⟨r, rfl, hrr⟩
          simp only [execOp, e1]; rfl
      · intro f w' hk hv
        obtain ⟨nn, rfl⟩ := hk
        obtain ⟨_, _, _, _, _, _, _, _, _, _, _, v5, _⟩ := hv
        obtain ⟨r, v5, hrr⟩ := v5
        have v5 : f 5 = .float .f32 r := v5
        have HRR := Lib.hid (show Rep .f32 (dotV zs ys (k + 1)) r by rw [HE.out]; exact hrr)
        clear hcx hcy hr hr2 hrr HS0 HE
        dsimp only [putAll, Act.put, Option.getD_some]
        rw [v5]
        generalize f 13 = f13
        generalize f 14 = f14
        generalize f 15 = f15
        generalize f 16 = f16
        generalize f 17 = f17
        generalize f 18 = f18
        generalize f 19 = f19
        generalize f 20 = f20
        generalize f 21 = f21
        generalize f 22 = f22
        generalize f 23 = f23
        clear v5
        simp only [List.setIfInBounds_toArray, List.set_cons_succ, List.set_cons_zero]
        go_wp2
        go_roundw
        case rel => exact ⟨k + 1, _, _, by omega, by go_num, rfl, (by first | rfl | exact World.drewN_drewN _ _ _), HRR.out⟩
        case measure => simp [intOf]; omega
    · obtain rfl : n = k := by omega
      have HS := Lib.hid HS0
      clear HS0
      go_wp2
      go_ret
      exact ⟨_, rfl, HS.out, _, rfl⟩

set_option maxHeartbeats 1000000 in
theorem dot_spec (A : Option Addr) (n c : Nat) (zs : List Nat) (B : Option Addr) (m d : Nat) (ys : List Nat) (w : World) (h : Sl w A n (valsF zs)) (h2 : Sl w B m (valsF ys)) (hn : n ≤ 1048576) (hm : m ≤ 1048576) (hf : AllF zs) (hg : AllF ys) :
    Calls Try.prog 24 #[.slice A n c, .slice B m d] w (SumPost (dotR zs ys) (dotB n m) w) := by
  have HL := Lib.hid (show zs.length = n by rw [← valsF_len, h.len])
  have HL2 := Lib.hid (show ys.length = m by rw [← valsF_len, h2.len])
  have HA := Lib.hid h
  have HB := Lib.hid h2
  clear h h2
  by_cases h256 : n ≤ 256
  · have hd : decide ((n : Int) ≤ 256) = true := decide_eq_true (by omega)
    by_cases hmn : n = m
    · subst hmn
      have HD := Lib.hid (show dotB n n = true by simp [dotB, h256])
      have HR := Lib.hid (show dotR zs ys = dotV zs ys n by unfold dotR; rw [HL.out, HL2.out, if_pos ⟨h256, rfl⟩])
      go_enter Try.func24, Try.ntmps24
      go_wp2_with (go_at_call 64; refine (few_spec _ _ _ hn _).mono ?_; rintro e w' ⟨rfl, rfl⟩)
      refine (dotl_spec _ n c zs _ d ys _ HA.out HB.out h256 hf hg).mono ?_
      rintro e w' ⟨r, rfl, hr, q, rfl⟩
      go_wp2
      go_ret2
      rw [HD.out, HR.out]
      exact SumPost.mk hr
    · have hne : ((n : Int) == (m : Int)) = false := by rw [beq_eq_false_iff_ne]; omega
      have hne2 : ((n : Int) != (m : Int)) = true := by rw [bne_iff_ne]; omega
      have hne3 : (n == m) = false := beq_eq_false_iff_ne.2 hmn
      have hne4 : (n != m) = true := bne_iff_ne.2 hmn
      have HD := Lib.hid (show dotB n m = false by simp [dotB, hmn])
      have HR := Lib.hid (show dotR zs ys = some 0 by unfold dotR; rw [HL.out, HL2.out, if_neg (fun hh => hmn hh.2)])
      clear hmn
      go_enter Try.func24, Try.ntmps24
      go_wp2_with (go_at_call 64; refine (few_spec _ _ _ hn _).mono ?_; rintro e w' ⟨rfl, rfl⟩)
      go_ret2
      rw [HD.out, HR.out]
      exact SumPost.mk0 rep_zero
  · have hd : decide ((n : Int) ≤ 256) = false := decide_eq_false (by omega)
    have HD := Lib.hid (show dotB n m = false by simp [dotB, h256])
    have HR := Lib.hid (show dotR zs ys = some 0 by unfold dotR; rw [HL.out, if_neg (fun hh => h256 hh.1)])
    go_enter Try.func24, Try.ntmps24
    go_wp2_with (go_at_call 64; refine (few_spec _ _ _ hn _).mono ?_; rintro e w' ⟨rfl, rfl⟩)
    go_ret2
    rw [HD.out, HR.out]
    exact SumPost.mk0 rep_zero

set_option maxHeartbeats 1000000 in
theorem dot_impl (A : Option Addr) (n c : Nat) (zs : List Nat) (B : Option Addr) (m d : Nat) (ys : List Nat) (w : World) (h : Sl w A n (valsF zs)) (h2 : Sl w B m (valsF ys)) (hn : n ≤ 1048576) (hm : m ≤ 1048576) (hf : AllF zs) (hg : AllF ys) :
    Calls Try.prog 26 #[.slice A n c, .slice B m d] w (SumPost (dotR zs ys) (dotB n m) w) := by
  have HL := Lib.hid (show zs.length = n by rw [← valsF_len, h.len])
  have HL2 := Lib.hid (show ys.length = m by rw [← valsF_len, h2.len])
  have HA := Lib.hid h
  have HB := Lib.hid h2
  clear h h2
  by_cases h256 : n ≤ 256
  · have hd : decide ((256 : Int) < (n : Int)) = false := decide_eq_false (by omega)
    by_cases hmn : n = m
    · subst hmn
      have HD := Lib.hid (show dotB n n = true by simp [dotB, h256])
      have HR := Lib.hid (show dotR zs ys = dotV zs ys n by unfold dotR; rw [HL.out, HL2.out, if_pos ⟨h256, rfl⟩])
      go_enter Try.func26, Try.ntmps26
      go_wp2
      go_loopw [21, 6] (fun i o wr => ∃ (k q s : Nat), k ≤ n ∧ i = .int .i64 k ∧ o = .float .f32 s ∧ wr = w.drewN q ∧ Rep .f32 (dotV zs ys k) s) (fun i _ _ => n - (intOf i).toNat)
      case atStart => exact ⟨0, 0, 0, Nat.zero_le _, rfl, rfl, rfl, rep_zero⟩
      case round =>
        obtain ⟨k, q, s, hk, rfl, rfl, rfl, HS0⟩ := hrel
        by_cases hlt : k < n
        · obtain ⟨b, off, x, rfl, hb, HX, hcx⟩ := slF_at HA.out hlt
          obtain ⟨b2, off2, y, rfl, hb2, HY, hcy⟩ := slF_at HB.out hlt
          have hr := hf.at_ HX
          have hr2 := hg.at_ HY
          have HE := Lib.hid (dotV_succ HX HY)
          go_wp2_with (refine wpList_ar rfl _ _ _ _ _ rfl rfl _ _ _ rfl rfl (by assumption) (by assumption) ?_; intro r nn hrr)
          go_roundw
          case rel => exact ⟨k + 1, _, _, by omega, by go_num, rfl, (by first | rfl | exact World.drewN_drewN _ _ _), by rw [HE.out]; assumption⟩
          case measure => simp [intOf]; omega
        · obtain rfl : n = k := by omega
          have HS := Lib.hid HS0
          clear HS0
          go_wp2
          go_ret2
          rw [HD.out, HR.out]
          exact SumPost.mk HS.out
    · have hne : ((n : Int) == (m : Int)) = false := by rw [beq_eq_false_iff_ne]; omega
      have hne2 : ((n : Int) != (m : Int)) = true := by rw [bne_iff_ne]; omega
      have hne3 : (n == m) = false := beq_eq_false_iff_ne.2 hmn
      have hne4 : (n != m) = true := bne_iff_ne.2 hmn
      have HD := Lib.hid (show dotB n m = false by simp [dotB, hmn])
      have HR := Lib.hid (show dotR zs ys = some 0 by unfold dotR; rw [HL.out, HL2.out, if_neg (fun hh => hmn hh.2)])
      clear hmn
      go_enter Try.func26, Try.ntmps26
      go_wp2
      go_ret2
      rw [HD.out, HR.out]
      exact SumPost.mk0 rep_zero
  · have hd : decide ((256 : Int) < (n : Int)) = true := decide_eq_true (by omega)
    have HD := Lib.hid (show dotB n m = false by simp [dotB, h256])
    have HR := Lib.hid (show dotR zs ys = some 0 by unfold dotR; rw [HL.out, if_neg (fun hh => h256 hh.1)])
    go_enter Try.func26, Try.ntmps26
    go_wp2
    go_ret2
    rw [HD.out, HR.out]
    exact SumPost.mk0 rep_zero
end Go.Proofs.Ytpebdcimbdbbmaa
