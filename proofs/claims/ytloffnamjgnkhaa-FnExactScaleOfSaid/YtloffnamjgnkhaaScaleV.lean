/-
  ScaleOf: the rates out of the amounts at the breaks. Conditions: none.
-/
import Derived.Test.YtloffnamjgnkhaaMixR
namespace Go.Proofs.Ytloffnamjgnkhaa
open Go.RowKit Mem

/-- How much the amount grows from break i - 1 to break i, times 10000; and how far apart the breaks are. -/
def upA (us : List Int) (i : Nat) : Int := (us.getD i 0 - us.getD (i - 1) 0) * 10000
def apB (bs : List Int) (i : Nat) : Int := bs.getD i 0 - bs.getD (i - 1) 0
/-- The slope up to break i, and whether it is whole. -/
def slp (bs us : List Int) (i : Nat) : Int := (upA us i).tdiv (apB bs i)
def whole (bs us : List Int) (i : Nat) : Prop := (upA us i).tmod (apB bs i) = 0
/-- The first slopes. -/
def slps (bs us : List Int) (k : Nat) : List Int := (List.range (k - 1)).map fun i => slp bs us (i + 1)
theorem slps_one (bs us : List Int) : slps bs us 1 = [] := rfl
theorem slps_succ (bs us : List Int) {k : Nat} (h : 1 ≤ k) : slps bs us (k + 1) = slps bs us k ++ [slp bs us k] := by
  obtain ⟨j, rfl⟩ : ∃ j, k = j + 1 := ⟨k - 1, by omega⟩
  simp [slps, List.range_succ]
theorem slps_len (bs us : List Int) (k : Nat) : (slps bs us k).length = k - 1 := by simp [slps]

/-- What is asked of the arguments. -/
structure SfOk (bs us : List Int) (top : Int) : Prop where
  l1 : 1 ≤ bs.length
  l8 : bs.length ≤ 8
  la : us.length = bs.length
  z : us.getD 0 0 = 0
  c : ∀ i, i < bs.length → 0 ≤ bs.getD i 0 ∧ bs.getD i 0 ≤ 1000000000000
  d : ∀ i, i < us.length → 0 ≤ us.getD i 0 ∧ us.getD i 0 ≤ 1000000000000
  a : ∀ i, i + 1 < bs.length → bs.getD i 0 < bs.getD (i + 1) 0
  w : ∀ i, 1 ≤ i → i < bs.length → whole bs us i
  ok : OkS bs (slps bs us bs.length ++ [top])
theorem SfOk.ap {bs : List Int} (h : ∀ i, i + 1 < bs.length → bs.getD i 0 < bs.getD (i + 1) 0) {i : Nat} (h1 : 1 ≤ i) (h2 : i < bs.length) : 0 < apB bs i := by
  have := h (i - 1) (by omega)
  rw [show i - 1 + 1 = i by omega] at this
  unfold apB
  omega

/-- The state of the loops: the box of the result, the box of what is gathered, the slices in it. -/
structure SfS (w : World) (H : Nat) (wr : World) (p : Nat) (A : Option Addr) (n c : Nat) (B : Option Addr) (m d : Nat) (xs ys : List Int) : Prop where
  k : Kp [] w wr
  le : w.heap.size ≤ H
  res : Fx wr H 27 (.slice none 0 0) (.slice none 0 0)
  acc : Fx wr p 27 (.slice A n c) (.slice B m d)
  own : Own2 (H + 1) wr A n c B m d xs ys
  far : p ∉ bl A B
  pos : H < p
theorem wrap_tdiv {V D : Int} (h1 : -10000000000000000 ≤ V) (h2 : V ≤ 10000000000000000) : IntKind.i64.wrap (V.tdiv D) = V.tdiv D := by
  have := Int.natAbs_tdiv_le_natAbs V D
  exact IntWalk.i64_in _ (by omega)
theorem wrap_tmod {V D : Int} (h1 : 0 < D) (h2 : D ≤ 1000000000000) : IntKind.i64.wrap (V.tmod D) = V.tmod D := by
  have h3 := Int.tmod_lt_of_pos V h1
  have h4 : (V.tmod D).natAbs < D.natAbs := by rw [Int.natAbs_tmod]; exact Nat.mod_lt _ (by omega)
  exact IntWalk.i64_in _ (by omega)
theorem slps_top (bs us : List Int) (top : Int) : (slps bs us bs.length ++ [top]).getD (bs.length - 1) 0 = top := by
  have := slps_len bs us bs.length
  simp [List.getD, List.getElem?_append, this]
/-- The first k rows are good. -/
structure Sfk (bs us : List Int) (k : Nat) : Prop where
  c : ∀ i, i < k → 0 ≤ bs.getD i 0 ∧ bs.getD i 0 ≤ 1000000000000
  d : ∀ i, i < k → 0 ≤ us.getD i 0 ∧ us.getD i 0 ≤ 1000000000000
  a : ∀ i, i + 1 < k → bs.getD i 0 < bs.getD (i + 1) 0
theorem Sfk.zero {bs us : List Int} : Sfk bs us 0 := ⟨fun i hi => absurd hi (by omega), fun i hi => absurd hi (by omega), fun i hi => absurd hi (by omega)⟩
theorem Sfk.succ {bs us : List Int} {k : Nat} {x u : Int} (h : Sfk bs us k) (hx : Hid (bs[k]? = some x)) (hu : Hid (us[k]? = some u)) (h1 : inB x 0 1000000000000 = true) (h2 : inB u 0 1000000000000 = true)
    (ha : 0 < k → ∀ y, Hid (bs[k - 1]? = some y) → y < x) : Sfk bs us (k + 1) := by
  have b1 := inB_iff.1 h1
  have b2 := inB_iff.1 h2
  refine ⟨fun i hi => ?_, fun i hi => ?_, fun i hi => ?_⟩
  · by_cases hik : i = k
    · subst hik; rw [getD_of hx]; exact b1
    · exact h.c i (by omega)
  · by_cases hik : i = k
    · subst hik; rw [getD_of hu]; exact b2
    · exact h.d i (by omega)
  · by_cases hik : i + 1 = k
    · subst hik
      have hl := (List.getElem?_eq_some_iff.1 hx.out).1
      have := ha (by omega) (bs.getD i 0) (Lib.hid (by simp [List.getD]; rw [List.getElem?_eq_getElem (by omega)]; rfl))
      rw [getD_of hx]
      exact this
    · exact h.a i (by omega)
/-- The numbers of a row: how far apart, how much more. -/
theorem sof_arith {bs us : List Int} {k : Nat} {x y u v : Int} (hc : ∀ i, i < bs.length → 0 ≤ bs.getD i 0 ∧ bs.getD i 0 ≤ 1000000000000) (hd : ∀ i, i < us.length → 0 ≤ us.getD i 0 ∧ us.getD i 0 ≤ 1000000000000)
    (ha : Asck bs bs.length) (h1 : 1 ≤ k) (hk : k < bs.length) (hk2 : k < us.length) (HX : Hid (bs[k]? = some x)) (HY : Hid (bs[k - 1]? = some y)) (HU : Hid (us[k]? = some u)) (HV : Hid (us[k - 1]? = some v)) :
    ∃ D U V : Int, IntKind.i64.wrap (x - y) = D ∧ IntKind.i64.wrap (u - v) = U ∧ IntKind.i64.wrap (U * 10000) = V ∧ (D == 0) = false ∧ D ≠ 0 ∧ IntKind.i64.wrap (V.tmod D) = V.tmod D ∧ IntKind.i64.wrap (V.tdiv D) = slp bs us k ∧ Hid (whole bs us k ↔ V.tmod D = 0) := by
  have a1 := ha (k - 1) (by omega)
  rw [getD_of HY, show k - 1 + 1 = k by omega, getD_of HX] at a1
  have b1 := hc k hk
  have b2 := hc (k - 1) (by omega)
  have b3 := hd k hk2
  have b4 := hd (k - 1) (by omega)
  rw [getD_of HX] at b1
  rw [getD_of HY] at b2
  rw [getD_of HU] at b3
  rw [getD_of HV] at b4
  have e1 : upA us k = (u - v) * 10000 := by unfold upA; rw [getD_of HU, getD_of HV]
  have e2 : apB bs k = x - y := by unfold apB; rw [getD_of HX, getD_of HY]
  refine ⟨x - y, u - v, (u - v) * 10000, IntWalk.i64_in _ (by omega), IntWalk.i64_in _ (by omega), IntWalk.i64_in _ (by omega), by rw [beq_eq_false_iff_ne]; omega, by omega, wrap_tmod (by omega) (by omega), ?_, Lib.hid ?_⟩
  · rw [wrap_tdiv (by omega) (by omega)]
    unfold slp
    rw [e1, e2]
  · unfold whole
    rw [e1, e2]
/-- Ahead of the region. -/
theorem Ch2.start0 {W1 : World} {p Bd : Nat} {A : Option Addr} {n c : Nat} {B : Option Addr} {m d : Nat} {xs ys : List Int} {x y : Int} {t : TypeId} {fb1 fa1 fb2 fa2 : Value} (hp : Fx W1 p t (.slice A n c) (.slice B m d)) (ho : Own2 Bd W1 A n c B m d xs ys) :
    Ch2 W1 p Bd A n c B m d xs ys x y t false false false false false false fb1 fa1 fb2 fa2 W1 :=
  ⟨(Kp.refl W1).mono (by simp), hp, ⟨ho.o1, fun h => (by cases h), fun h => (by cases h)⟩, ⟨ho.o2, fun h => (by cases h), fun h => (by cases h)⟩, fun h => (by cases h)⟩

section
variable {w : World} {H : Nat} {wr wr' : World} {p : Nat} {A : Option Addr} {n c : Nat} {B : Option Addr} {m d : Nat} {xs ys : List Int}
theorem SfS.kp (h : SfS w H wr p A n c B m d xs ys) (hk : Kp [] wr wr') : SfS w H wr' p A n c B m d xs ys :=
  ⟨h.k.tr hk, h.le, h.res.kp hk, h.acc.kp hk, h.own.kp0 hk, h.far, h.pos⟩
theorem SfS.chb (h : SfS w H wr p A n c B m d xs ys) : ChB wr.heap.size p A B :=
  ⟨h.acc.lt, fun k hk => ⟨(h.own.lt k hk).2, fun e => h.far (e ▸ hk)⟩, h.own.ne⟩
/-- A block that was there ahead of the call is not turned. -/
theorem SfS.old (h : SfS w H wr p A n c B m d xs ys) {q : Nat} (hq : q < w.heap.size) : q ∉ p :: bl A B := by
  intro hh
  have := h.le
  have := h.pos
  rcases List.mem_cons.1 hh with e | e
  · omega
  · have := (h.own.lt q e).1; omega
theorem SfS.step {y : Int} {fb fa : Value} (h : SfS w H wr p A n c B m d xs ys) (M : Ch2 wr p (H + 1) A n c B m d xs ys 0 y 27 false false false true true true undef undef fb fa wr') :
    ∃ g cap, fa = .slice (some ⟨g, 0, none⟩) (m + 1) cap ∧ SfS w H wr' p A n c (some ⟨g, 0, none⟩) (m + 1) cap xs (ys ++ [y]) := by
  obtain ⟨g, cap, ev, hg, _⟩ := M.r.new rfl
  have o1 := M.l.own
  have o2 := M.r.own
  have ac := M.acc
  have s := h.chb
  have hle := h.le
  have hpos := h.pos
  simp only [ev, if_true, Bool.false_eq_true, if_false] at o1 o2 ac
  have hT : ∀ t ∈ p :: bl A B, H + 1 ≤ t := by
    intro t ht
    rcases List.mem_cons.1 ht with e | e
    · omega
    · exact (h.own.lt t e).1
  refine ⟨g, cap, ev, h.k.later M.k (fun t ht => by have := hT t ht; omega), hle, h.res.keep M.k (fun hh => by have := hT _ hh; omega), ac, ⟨o1, o2, ?_⟩, ?_, hpos⟩
  · intro u v hu hv e
    injection hv with hv
    subst hv
    simp only at e
    have hu' : A.map (·.block) = some u.block := by rw [hu]; rfl
    rcases hg with hg | hg
    · rw [← e] at hg
      exact s.ne' hu' hg
    · have := (s.b _ (memL (B := B) hu')).1
      omega
  · intro hh
    unfold bl at hh
    rw [List.mem_append] at hh
    rcases hh with hh | hh
    · exact h.far (memL (by simpa using hh))
    · have hpg : g = p := by have h9 := hh; simp at h9; omega
      rcases hg with hg | hg
      · exact h.far (by subst hpg; exact memR hg)
      · have := h.acc.lt; omega
/-- One more number, by 'p.x = append(p.x, y)' in the text's order. -/
theorem SfS.put (h : SfS w H wr p A n c B m d xs ys) (hm : m ≤ 1048576) (y : Int) :
    ∃ g cap w6, (Builtin.append_ #[22, 22] 22 #[.slice B m d, .slice (some ⟨wr.heap.size, 0, none⟩) 1 1]).run Try.prog (wr.alloc (.cells #[.int .i64 y] 2)) = .ok (.slice (some ⟨g, 0, none⟩) (m + 1) cap) w6 ∧
      Fx w6 p 27 (.slice A n c) (.slice B m d) ∧ SfS w H (w6.setCell ⟨p, 1, none⟩ (.slice (some ⟨g, 0, none⟩) (m + 1) cap)) p A n c (some ⟨g, 0, none⟩) (m + 1) cap xs (ys ++ [y]) := by
  have s := h.chb
  have h0 : Ch2 wr p (H + 1) A n c B m d xs ys 0 y 27 false false false false false false undef undef undef undef wr := Ch2.start0 h.acc h.own
  have h1 := h0.build2 2
  obtain ⟨g, cap, w6, hr, h2⟩ := Ch2.app2 s h1 (by have := h.acc.lt; have := h.pos; omega) hm
  have hac := h2.acc
  simp only [Bool.false_eq_true, if_false] at hac
  obtain ⟨g2, cap2, ev, h4⟩ := h.step (Ch2.store2 s h2)
  injection ev with ev _ ev2
  injection ev with ev
  injection ev with ev
  subst ev ev2
  exact ⟨g, cap, w6, hr, hac, h4⟩
/-- The whole of it is handed back. -/
theorem SfS.done {P : Prop} (h : SfS w H wr p A n c B m d xs ys) (hp : P) (hk : Kp [] wr wr') : SPost (whenP P xs) (whenP P ys) (okb P) w (.returned (.tuple #[.agg #[.slice A n c, .slice B m d], .bool true])) ((wr'.setCell ⟨H, 0, none⟩ (.slice A n c)).setCell ⟨H, 1, none⟩ (.slice B m d)) := by
  have hh := ((Kp.refl wr').set H 0 (.slice A n c)).set H 1 (.slice B m d)
  have hle := h.le
  exact SPost.yes hp (((h.k.tr hk).setNew _ hle _ _).setNew _ hle _ _) (((h.own.kp0 hk).kp hh (by
    intro t ht hh
    have := (h.own.lt t ht).1
    simp at hh
    omega)).mono (by omega))
theorem SfS.refuse {P : Prop} (h : SfS w H wr p A n c B m d xs ys) (hp : ¬ P) (hk : Kp [] wr wr') {u v : Value} {us vs : List Int} : SPost (whenP P us) (whenP P vs) (okb P) w (.returned (.tuple #[.agg #[.slice none 0 0, .slice none 0 0], .bool false])) ((wr'.setCell ⟨H, 0, none⟩ u).setCell ⟨H, 1, none⟩ v) :=
  SPost.no hp (((h.k.tr hk).setNew _ h.le _ _).setNew _ h.le _ _)
end
end Go.Proofs.Ytloffnamjgnkhaa
