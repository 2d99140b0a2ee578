/-
  Complex numbers part by part; the law's comparison of lists of complex numbers. Conditions: those that each theorem names.
-/
import Derived.Test.YtmlocepflcfkmaaDoorFrom
import Derived.Test.YtmlocepflcfkmaaDoorEqF
namespace Go.Proofs.YtmlocepflcfkmaaDoor
set_option linter.unusedVariables false
set_option linter.unusedSimpArgs false
open Go.RowKit Mem Flo

theorem run_ff {v : Option Nat} {b : Nat} (h : Rep .f32 v b) (w : World) : ∃ r n, (Conv.floatToFloat .f32 b .f64).run Tryd.prog w = .ok (.float .f64 r) (w.drewN n) ∧ Rep .f64 (up v) r := by
  obtain ⟨r, n, h1, h2⟩ := run_up (P := Tryd.prog) 52 56 Tryd.underlying52 Tryd.underlying56 h w
  refine ⟨r, n, ?_, h2⟩
  simpa [convert, run_underlying (Tryd.underlying52), run_underlying (Tryd.underlying56)] using h1

theorem run_cup {v u : Option Nat} {a b : Nat} (ha : Rep .f32 v a) (hb : Rep .f32 u b) (w : World) : ∃ r s n, (convert 57 59 (.complex .f32 a b)).run Tryd.prog w = .ok (.complex .f64 r s) (w.drewN n) ∧ Rep .f64 (up v) r ∧ Rep .f64 (up u) s := by
  obtain ⟨r, n, h1, h2⟩ := run_ff ha w
  obtain ⟨s, m, h3, h4⟩ := run_ff hb (w.drewN n)
  refine ⟨r, s, n + m, ?_, h2, h4⟩
  simp [convert, run_underlying (Tryd.underlying57), run_underlying (Tryd.underlying59), Conv.complexToComplex, h1, h3, World.drewN_drewN]

theorem csame_any {v u : Option Nat} {a b c d : Nat} (ha : Rep .f64 v a) (hb : Rep .f64 u b) (hc : Rep .f64 v c) (hd : Rep .f64 u d) (w : World) :
    Calls Tryd.prog 41 #[.complex .f64 a b, .complex .f64 c d] w fun e w' => e = .returned (.bool true) ∧ ∃ n, w' = w.drewN n := by
  go_enter Tryd.func41, Tryd.ntmps41
  go_wp2_with (go_at_call 39; first | ((with_reducible refine (same_any ha hc _).mono ?_); rintro e w' ⟨rfl, k, rfl⟩) | ((with_reducible refine (same_any hb hd _).mono ?_); rintro e w' ⟨rfl, k, rfl⟩))
  go_ret
  exact ⟨rfl, _, rfl⟩

def valsC (zs : List (Nat × Nat)) : List Value := zs.map fun z => .complex .f32 z.1 z.2
theorem valsC_at {zs : List (Nat × Nat)} {j : Nat} {u : Value} (h : (valsC zs)[j]? = some u) : u = .complex .f32 (zs.getD j (0, 0)).1 (zs.getD j (0, 0)).2 := by
  unfold valsC at h
  rw [List.getElem?_map, Option.map_eq_some_iff] at h
  obtain ⟨z, hz, rfl⟩ := h
  simp [List.getD, hz]
theorem valsC_len (zs : List (Nat × Nat)) : (valsC zs).length = zs.length := by simp [valsC]
theorem slC_at {w : World} {A : Option Addr} {n k : Nat} {zs : List (Nat × Nat)} (h : Sl w A n (valsC zs)) (hk : k < n) :
    ∃ b off x, A = some ⟨b, off, none⟩ ∧ b < w.heap.size ∧ Hid (zs[k]? = some x) ∧ w.cell? ⟨b, off + k, none⟩ = some (.complex .f32 x.1 x.2) := by
  obtain ⟨b, off, u, e, hb, hu, hc⟩ := h.at_ hk
  unfold valsC at hu
  rw [List.getElem?_map, Option.map_eq_some_iff] at hu
  obtain ⟨z, hz, rfl⟩ := hu
  exact ⟨b, off, z, e, hb, hz, hc⟩
/-- All are bits of floats. -/
def AllC (zs : List (Nat × Nat)) : Prop := ∀ z ∈ zs, z.1 < 4294967296 ∧ z.2 < 4294967296
theorem AllC.at_ {zs : List (Nat × Nat)} {k : Nat} {x : Nat × Nat} (h : AllC zs) (hx : Hid (zs[k]? = some x)) : Rep .f32 (tell .f32 x.1) x.1 ∧ Rep .f32 (tell .f32 x.2) x.2 :=
  ⟨rep_tell _ _ (h x (List.mem_of_getElem? hx.out)).1, rep_tell _ _ (h x (List.mem_of_getElem? hx.out)).2⟩

/-- What may lie in the slots of the round. -/
def eqcT (b off b2 off2 n c m d k : Nat) (x : Nat × Nat) (s : Nat) (v : Value) (_w : World) : Prop :=
  match s with
  | 0 | 17 => v = .slice (some ⟨b, off, none⟩) n c
  | 1 | 22 => v = .slice (some ⟨b2, off2, none⟩) m d
  | 5 | 18 | 23 => v = .int .i64 (k : Int)
  | 19 => v = .pointer (some ⟨b, off + k, none⟩)
  | 24 => v = .pointer (some ⟨b2, off2 + k, none⟩)
  | 20 | 25 => v = .complex .f32 x.1 x.2
  | 21 | 26 => ∃ r t, v = .complex .f64 r t ∧ Rep .f64 (up (tell .f32 x.1)) r ∧ Rep .f64 (up (tell .f32 x.2)) t
  | 27 => v = .bool true
  | 28 => v = .bool false
  | _ => True

set_option maxHeartbeats 1000000 in
theorem eqc_any (A : Option Addr) (n c : Nat) (B : Option Addr) (d : Nat) (zs : List (Nat × Nat)) (w : World) (h : Sl w A n (valsC zs)) (h2 : Sl w B n (valsC zs)) (hn : n ≤ 1048576) (hf : AllC zs) :
    Calls Tryd.prog 22 #[.slice A n c, .slice B n d] w fun e w' => e = .returned (.bool true) ∧ ∃ q, w' = w.drewN q := by
  have HA := Lib.hid h
  have HB := Lib.hid h2
  clear h h2
  go_enter Tryd.func22, Tryd.ntmps22
  go_wp2
  go_loopw [5] (fun i wr => ∃ (k q : Nat), k ≤ n ∧ i = .int .i64 k ∧ wr = w.drewN q) (fun i _ => n - (intOf i).toNat)
  case atStart => exact ⟨0, 0, Nat.zero_le _, rfl, rfl⟩
  case round =>
    obtain ⟨k, q, hk, rfl, rfl⟩ := hrel
    by_cases hlt : k < n
    · obtain ⟨b, off, x, rfl, hb, HX, hcx⟩ := slC_at HA.out hlt
      obtain ⟨b2, off2, y, rfl, hb2, HY, hcy⟩ := slC_at HB.out hlt
      have hxy : x = y := by have h1 := HX.out; rw [HY.out] at h1; injection h1 with h1; exact h1.symm
      subst hxy
      have hr := hf.at_ HX
      go_wp2
      refine wp_region_typed_lit (by kernel_rfl) (by kernel_rfl) rfl Dr (eqcT b off b2 off2 n c n d k x) Dr.refl Dr.trans Dr.drew (fun s v w1 w2 _ h => h) ?_ ?_ ?_
      · refine ⟨⟨.inr rfl, trivial⟩, ⟨.inr rfl, trivial⟩, ⟨.inl rfl, .inl rfl, trivial⟩, ⟨.inl rfl, trivial⟩, ⟨.inl rfl, trivial⟩, ⟨.inr rfl, trivial⟩, ⟨.inr rfl, trivial⟩, ⟨.inl rfl, .inl rfl, trivial⟩, ⟨.inl rfl, trivial⟩, ⟨.inl rfl, trivial⟩, ⟨.inl rfl, .inl rfl, trivial⟩, ⟨.inl rfl, trivial⟩, trivial⟩
      · refine ⟨fun a w' hk hl => ?_, fun a w' hk hl => ?_, fun a w' hk hl => ?_, fun a w' hk hl => ?_, fun a w' hk hl => ?_, fun a w' hk hl => ?_, fun a w' hk hl => ?_, fun a w' hk hl => ?_, fun a w' hk hl => ?_, fun a w' hk hl => ?_, fun a w' hk hl => ?_, fun a w' hk hl => ?_, trivial⟩
        · exact pure_step Dr.refl rfl rfl hl.1
        · exact pure_step Dr.refl rfl rfl hl.1
        · have e1 : a.eval (.tmp 17) = .slice (some ⟨b, off, none⟩) n c := hl.1
          have e2 : a.eval (.tmp 18) = .int .i64 (k : Int) := hl.2.1
          refine pure_step Dr.refl rfl (v := .pointer (some ⟨b, off + k, none⟩)) ?_ rfl
          clear hl hcx hcy hk
          simp only [execOp, e1, e2]
          go_simp
        · have e1 : a.eval (.tmp 19) = .pointer (some ⟨b, off + k, none⟩) := hl.1
          obtain ⟨nn, rfl⟩ := hk
          refine pure_step Dr.refl rfl (v := .complex .f32 x.1 x.2) ?_ rfl
          clear hl hcy
          simp only [execOp, e1]
          go_simp
        · have e1 : a.eval (.tmp 20) = .complex .f32 x.1 x.2 := hl.1
          obtain ⟨r, t, nn, hrun, hrr, hrt⟩ := run_cup hr.1 hr.2 w'
          refine draw_step rfl (v := .complex .f64 r t) (w2 := w'.drewN nn) ?_ ⟨nn, rfl⟩ ⟨r, t, rfl, hrr, hrt⟩
          clear hl hcx hcy
          simp only [execOp, e1]
          simp [hrun]
        · exact pure_step Dr.refl rfl rfl hl.1
        · exact pure_step Dr.refl rfl rfl hl.1
        · have e1 : a.eval (.tmp 22) = .slice (some ⟨b2, off2, none⟩) n d := hl.1
          have e2 : a.eval (.tmp 23) = .int .i64 (k : Int) := hl.2.1
          refine pure_step Dr.refl rfl (v := .pointer (some ⟨b2, off2 + k, none⟩)) ?_ rfl
          clear hl hcx hcy hk
          simp only [execOp, e1, e2]
          go_simp
        · have e1 : a.eval (.tmp 24) = .pointer (some ⟨b2, off2 + k, none⟩) := hl.1
          obtain ⟨nn, rfl⟩ := hk
          refine pure_step Dr.refl rfl (v := .complex .f32 x.1 x.2) ?_ rfl
          clear hl hcx
          simp only [execOp, e1]
          go_simp
        · have e1 : a.eval (.tmp 25) = .complex .f32 x.1 x.2 := hl.1
          obtain ⟨r, t, nn, hrun, hrr, hrt⟩ := run_cup hr.1 hr.2 w'
          refine draw_step rfl (v := .complex .f64 r t) (w2 := w'.drewN nn) ?_ ⟨nn, rfl⟩ ⟨r, t, rfl, hrr, hrt⟩
          clear hl hcx hcy
          simp only [execOp, e1]
          simp [hrun]
        · obtain ⟨r1, t1, e1, hr1, ht1⟩ := hl.1
          obtain ⟨r2, t2, e2, hr2, ht2⟩ := hl.2.1
          have e1 : a.tmps.getD 21 undef = .complex .f64 r1 t1 := e1
          have e2 : a.tmps.getD 26 undef = .complex .f64 r2 t2 := e2
          refine call_step rfl (f := 41) (args := #[.complex .f64 r1 t1, .complex .f64 r2 t2]) ?_ ?_
          · clear hl hcx hcy hk hr hr1 hr2 ht1 ht2
            simp only [execOp]
            go_simp
          · refine (csame_any hr1 ht1 hr2 ht2 w').mono ?_
            rintro e w2 ⟨rfl, nn, rfl⟩
            exact ⟨_, rfl, ⟨nn, rfl⟩, rfl⟩
        · have e1 : a.eval (.tmp 27) = .bool true := hl.1
          refine pure_step Dr.refl rfl (v := .bool false) ?_ rfl
          simp only [execOp, e1]
          rfl
      · intro f w' hk hv
        obtain ⟨nn, rfl⟩ := hk
        obtain ⟨_, _, _, _, _, _, _, _, _, _, _, v28, _⟩ := hv
        have v28 : f 28 = .bool false := v28
        clear hcx hcy hr
        show Exit.then _ _ .normal (putAll f [_, _, _, _, _, _, _, _, _, _, _, _] _) _
        simp only [putAll, Act.put, Option.getD_some]
        rw [v28]
        generalize f 17 = f17
        generalize f 18 = f18
        generalize f 19 = f19
        generalize f 20 = f20
        generalize f 21 = f21
        generalize f 22 = f22
        generalize f 23 = f23
        generalize f 24 = f24
        generalize f 25 = f25
        generalize f 26 = f26
        generalize f 27 = f27
        clear v28
        simp only [List.setIfInBounds_toArray, List.set_cons_succ, List.set_cons_zero]
        go_wp2
        go_roundw
        case rel => exact ⟨k + 1, _, by omega, by go_num, rfl⟩
        case measure => simp [intOf]; omega
    · obtain rfl : n = k := by omega
      go_wp2
      go_ret
      exact ⟨rfl, _, rfl⟩

end Go.Proofs.YtmlocepflcfkmaaDoor
