/-
  The law's own comparison of two slices of float32 that read as one list: it says yes. Conditions: the slices read as that list, which is not too long; its elements are floats.
-/
import Derived.Test.YtmlocepflcfkmaaDoorToF
import Derived.Test.YtmlocepflcfkmaaDoorSame
import Derived.Test.YtmlocepflcfkmaaDoorTyped
namespace Go.Proofs.YtmlocepflcfkmaaDoor
open Go.RowKit Mem Flo

theorem slF_at {w : World} {A : Option Addr} {n k : Nat} {zs : List Nat} (h : Sl w A n (valsF zs)) (hk : k < n) :
    ∃ b off x, A = some ⟨b, off, none⟩ ∧ b < w.heap.size ∧ Hid (zs[k]? = some x) ∧ w.cell? ⟨b, off + k, none⟩ = some (.float .f32 x) := by
  obtain ⟨b, off, u, e, hb, hu, hc⟩ := h.at_ hk
  unfold valsF at hu
  rw [List.getElem?_map, Option.map_eq_some_iff] at hu
  obtain ⟨z, hz, rfl⟩ := hu
  exact ⟨b, off, z, e, hb, hz, hc⟩

/-- All elements are bits of a float32. -/
def AllF (zs : List Nat) : Prop := ∀ z ∈ zs, z < 4294967296
theorem AllF.at_ {zs : List Nat} {k x : Nat} (h : AllF zs) (hx : Hid (zs[k]? = some x)) : Rep .f32 (tell .f32 x) x := rep_tell _ _ (h x (List.mem_of_getElem? hx.out))

theorem pure_step {P : Program} {R : World → World → Prop} {w : World} {S : Value → World → Prop} {a : Act} {o : Oper} {ops : Array Oper} {v : Value} (hrf : ∀ w, R w w) (hg : o.guard = none)
    (hr : (execOp a.eval o).run P w = .ok (.value v) w) (hS : S v w) : (Region.wanted o (yielded ops a.tmps) = true → typedUpon P R w S ((execOp a.eval o).run P w)) ∧ (Region.wanted o (yielded ops a.tmps) = false → S undef w) :=
  ⟨fun _ => by rw [hr]; exact ⟨hrf _, hS⟩, fun h => by simp [Region.wanted, hg] at h⟩
theorem draw_step {P : Program} {R : World → World → Prop} {w w2 : World} {S : Value → World → Prop} {a : Act} {o : Oper} {ops : Array Oper} {v : Value} (hg : o.guard = none)
    (hr : (execOp a.eval o).run P w = .ok (.value v) w2) (hR : R w w2) (hS : S v w2) : (Region.wanted o (yielded ops a.tmps) = true → typedUpon P R w S ((execOp a.eval o).run P w)) ∧ (Region.wanted o (yielded ops a.tmps) = false → S undef w) :=
  ⟨fun _ => by rw [hr]; exact ⟨hR, hS⟩, fun h => by simp [Region.wanted, hg] at h⟩
theorem call_step {P : Program} {R : World → World → Prop} {w : World} {S : Value → World → Prop} {a : Act} {o : Oper} {ops : Array Oper} {f : FuncId} {args : Array Value} (hg : o.guard = none)
    (hr : (execOp a.eval o).run P w = .ok (.enter f args) w) (hc : Calls P f args w (fun e w'' => ∃ v, e = .returned v ∧ R w w'' ∧ S v w'')) : (Region.wanted o (yielded ops a.tmps) = true → typedUpon P R w S ((execOp a.eval o).run P w)) ∧ (Region.wanted o (yielded ops a.tmps) = false → S undef w) :=
  ⟨fun _ => by rw [hr]; exact hc, fun h => by simp [Region.wanted, hg] at h⟩

/-- A world some draws later. -/
def Dr (w w' : World) : Prop := ∃ n, w' = w.drewN n
theorem Dr.refl (w : World) : Dr w w := ⟨0, rfl⟩
theorem Dr.trans (w1 w2 w3 : World) (h : Dr w1 w2) (k : Dr w2 w3) : Dr w1 w3 := by
  obtain ⟨n, rfl⟩ := h
  obtain ⟨m, rfl⟩ := k
  exact ⟨n + m, World.drewN_drewN _ _ _⟩
theorem Dr.drew (w : World) : Dr w w.drew := ⟨1, rfl⟩

/-- What may lie in the slots of the round. -/
def eqfT (b off b2 off2 n c m d k x : Nat) (s : Nat) (v : Value) (_w : World) : Prop :=
  match s with
  | 0 | 17 => v = .slice (some ⟨b, off, none⟩) n c
  | 1 | 22 => v = .slice (some ⟨b2, off2, none⟩) m d
  | 5 | 18 | 23 => v = .int .i64 (k : Int)
  | 19 => v = .pointer (some ⟨b, off + k, none⟩)
  | 24 => v = .pointer (some ⟨b2, off2 + k, none⟩)
  | 20 | 25 => v = .float .f32 x
  | 21 | 26 => ∃ r, v = .float .f64 r ∧ Rep .f64 (up (tell .f32 x)) r
  | 27 => v = .bool true
  | 28 => v = .bool false
  | _ => True

set_option maxHeartbeats 1000000 in
theorem eqf_any (A : Option Addr) (n c : Nat) (B : Option Addr) (d : Nat) (zs : List Nat) (w : World) (h : Sl w A n (valsF zs)) (h2 : Sl w B n (valsF zs)) (hn : n ≤ 1048576) (hf : AllF zs) :
    Calls Tryd.prog 17 #[.slice A n c, .slice B n d] w fun e w' => e = .returned (.bool true) ∧ ∃ q, w' = w.drewN q := by
  have HA := Lib.hid h
  have HB := Lib.hid h2
  clear h h2
  go_enter Tryd.func17, Tryd.ntmps17
  go_wp2
  go_loopw [5] (fun i wr => ∃ (k q : Nat), k ≤ n ∧ i = .int .i64 k ∧ wr = w.drewN q) (fun i _ => n - (intOf i).toNat)
  case atStart => exact ⟨0, 0, Nat.zero_le _, rfl, rfl⟩
  case round =>
    obtain ⟨k, q, hk, rfl, rfl⟩ := hrel
    by_cases hlt : k < n
    · obtain ⟨b, off, x, rfl, hb, HX, hcx⟩ := slF_at HA.out hlt
      obtain ⟨b2, off2, y, rfl, hb2, HY, hcy⟩ := slF_at HB.out hlt
      have hxy : x = y := by have h1 := HX.out; rw [HY.out] at h1; injection h1 with h1; exact h1.symm
      subst hxy
      have hr := hf.at_ HX
      go_wp2
      refine wp_region_typed_lit (by kernel_rfl) (by kernel_rfl) rfl Dr (eqfT b off b2 off2 n c n d k x) Dr.refl Dr.trans Dr.drew (fun s v w1 w2 _ h => h) ?_ ?_ ?_
      · refine ⟨⟨.inr rfl, trivial⟩, ⟨.inr rfl, trivial⟩, ⟨.inl rfl, .inl rfl, trivial⟩, ⟨.inl rfl, trivial⟩, ⟨.inl rfl, trivial⟩, ⟨.inr rfl, trivial⟩, ⟨.inr rfl, trivial⟩, ⟨.inl rfl, .inl rfl, trivial⟩, ⟨.inl rfl, trivial⟩, ⟨.inl rfl, trivial⟩, ⟨.inl rfl, .inl rfl, trivial⟩, ⟨.inl rfl, trivial⟩, trivial⟩
      · refine ⟨fun a w' hk hl => ?_, fun a w' hk hl => ?_, fun a w' hk hl => ?_, fun a w' hk hl => ?_, fun a w' hk hl => ?_, fun a w' hk hl => ?_, fun a w' hk hl => ?_, fun a w' hk hl => ?_, fun a w' hk hl => ?_, fun a w' hk hl => ?_, fun a w' hk hl => ?_, fun a w' hk hl => ?_, trivial⟩
        · exact pure_step Dr.refl rfl rfl hl.1
        · exact pure_step Dr.refl rfl rfl hl.1
        · have e1 : a.eval (.tmp 17) = .slice (some ⟨b, off, none⟩) n c := hl.1
          have e2 : a.eval (.tmp 18) = .int .i64 (k : Int) := hl.2.1
          refine pure_step Dr.refl rfl (v := .pointer (some ⟨b, off + k, none⟩)) ?_ rfl
          clear hl hcx hcy hk
          simp only [execOp, e1, e2]
          go_simp
        · have e1 : a.eval (.tmp 19) = .pointer (some ⟨b, off + k, none⟩) := hl.1
          obtain ⟨nn, rfl⟩ := hk
          refine pure_step Dr.refl rfl (v := .float .f32 x) ?_ rfl
          clear hl hcy
          simp only [execOp, e1]
          go_simp
        · have e1 : a.eval (.tmp 20) = .float .f32 x := hl.1
          obtain ⟨r, nn, hrun, hrr⟩ := run_up (P := Tryd.prog) 52 56 Tryd.underlying52 Tryd.underlying56 hr w'
          refine draw_step rfl (v := .float .f64 r) (w2 := w'.drewN nn) ?_ ⟨nn, rfl⟩ ⟨r, rfl, hrr⟩
          clear hl hcx hcy
          simp only [execOp, e1]
          simp [hrun]
        · exact pure_step Dr.refl rfl rfl hl.1
        · exact pure_step Dr.refl rfl rfl hl.1
        · have e1 : a.eval (.tmp 22) = .slice (some ⟨b2, off2, none⟩) n d := hl.1
          have e2 : a.eval (.tmp 23) = .int .i64 (k : Int) := hl.2.1
          refine pure_step Dr.refl rfl (v := .pointer (some ⟨b2, off2 + k, none⟩)) ?_ rfl
          clear hl hcx hcy hk
          simp only [execOp, e1, e2]
          go_simp
        · have e1 : a.eval (.tmp 24) = .pointer (some ⟨b2, off2 + k, none⟩) := hl.1
          obtain ⟨nn, rfl⟩ := hk
          refine pure_step Dr.refl rfl (v := .float .f32 x) ?_ rfl
          clear hl hcx
          simp only [execOp, e1]
          go_simp
        · have e1 : a.eval (.tmp 25) = .float .f32 x := hl.1
          obtain ⟨r, nn, hrun, hrr⟩ := run_up (P := Tryd.prog) 52 56 Tryd.underlying52 Tryd.underlying56 hr w'
          refine draw_step rfl (v := .float .f64 r) (w2 := w'.drewN nn) ?_ ⟨nn, rfl⟩ ⟨r, rfl, hrr⟩
          clear hl hcx hcy
          simp only [execOp, e1]
          simp [hrun]
        · obtain ⟨r1, e1, hr1⟩ := hl.1
          obtain ⟨r2, e2, hr2⟩ := hl.2.1
          have e1 : a.tmps.getD 21 undef = .float .f64 r1 := e1
          have e2 : a.tmps.getD 26 undef = .float .f64 r2 := e2
          refine call_step rfl (f := 39) (args := #[.float .f64 r1, .float .f64 r2]) ?_ ?_
          · clear hl hcx hcy hk hr hr1 hr2
            simp only [execOp]
            go_simp
          · refine (same_any hr1 hr2 w').mono ?_
            rintro e w2 ⟨rfl, nn, rfl⟩
            exact ⟨_, rfl, ⟨nn, rfl⟩, rfl⟩
        · have e1 : a.eval (.tmp 27) = .bool true := hl.1
          refine pure_step Dr.refl rfl (v := .bool false) ?_ rfl
          simp only [execOp, e1]
          rfl
      · intro f w' hk hv
        obtain ⟨nn, rfl⟩ := hk
        obtain ⟨_, _, _, _, _, _, _, _, _, _, _, v28, _⟩ := hv
        have v28 : f 28 = .bool false := v28
        clear hcx hcy hr
        show Exit.then _ _ .normal (putAll f [_, _, _, _, _, _, _, _, _, _, _, _] _) _
        simp only [putAll, Act.put, Option.getD_some]
        rw [v28]
        generalize f 17 = f17
        generalize f 18 = f18
        generalize f 19 = f19
        generalize f 20 = f20
        generalize f 21 = f21
        generalize f 22 = f22
        generalize f 23 = f23
        generalize f 24 = f24
        generalize f 25 = f25
        generalize f 26 = f26
        generalize f 27 = f27
        clear v28
        simp only [List.setIfInBounds_toArray, List.set_cons_succ, List.set_cons_zero]
        go_wp2
        go_roundw
        case rel => exact ⟨k + 1, _, by omega, by go_num, rfl⟩
        case measure => simp [intOf]; omega
    · obtain rfl : n = k := by omega
      go_wp2
      go_ret
      exact ⟨rfl, _, rfl⟩

/-- A copy is a row of its own. -/
theorem to_rowF (A : Option Addr) (n c : Nat) (zs : List Nat) (w : World) (h : Sl w A n (valsF zs)) (hn : n ≤ 1048576) :
    Calls Tryd.prog 31 #[.slice A n c] w fun e w' => ∃ g, e = .returned (.slice (some ⟨g, 0, none⟩) n n) ∧ Kp [] w w' ∧ Row w' g 52 (valsF zs) :=
  (to_anyF A n c zs w h hn).mono fun _ _ ⟨he, hw⟩ => ⟨_, he, by rw [hw]; exact (Kp.refl w).alloc _, by rw [hw]; exact Row.new _ _ _⟩
end Go.Proofs.YtmlocepflcfkmaaDoor
