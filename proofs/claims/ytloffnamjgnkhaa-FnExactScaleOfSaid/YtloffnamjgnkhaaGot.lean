/-
  Scales as results: owned, marked, read again; the law's own copy as an owned one. Conditions: the slices are owned and not too long.
-/
import Derived.Test.YtloffnamjgnkhaaMark
import Derived.Test.YtloffnamjgnkhaaReg
import Derived.Test.YtloffnamjgnkhaaBx
namespace Go.Proofs.Ytloffnamjgnkhaa
open Go.RowKit Mem

/-- The blocks of two slices. -/
def bl (A B : Option Addr) : List Nat := (A.map (·.block)).toList ++ (B.map (·.block)).toList

/-- Two owned slices in blocks of their own. -/
structure Own2 (Bd : Nat) (w : World) (A : Option Addr) (n c : Nat) (B : Option Addr) (m d : Nat) (bs rs : List Int) : Prop where
  o1 : Own Bd w (.slice A n c) bs
  o2 : Own Bd w (.slice B m d) rs
  ne : ∀ a b, A = some a → B = some b → a.block ≠ b.block

section
variable {Bd : Nat} {w w' : World} {A B : Option Addr} {n c m d : Nat} {bs rs : List Int} {T : List Nat}
theorem blk1 {k : Nat} (h : (Value.slice A n c).ownBlock = some k) : k ∈ bl A B := by
  cases A with
  | none => cases h
  | some a => injection h with h; subst h; simp [bl]
theorem blk2 {k : Nat} (h : (Value.slice B m d).ownBlock = some k) : k ∈ bl A B := by
  cases B with
  | none => cases h
  | some a => injection h with h; subst h; simp [bl]
theorem Own2.kp (h : Own2 Bd w A n c B m d bs rs) (hk : Kp T w w') (hn : ∀ k ∈ bl A B, k ∉ T) : Own2 Bd w' A n c B m d bs rs :=
  ⟨h.o1.kp hk (fun k hk => hn k (blk1 hk)), h.o2.kp hk (fun k hk => hn k (blk2 hk)), h.ne⟩
theorem Own2.kp0 (h : Own2 Bd w A n c B m d bs rs) (hk : Kp [] w w') : Own2 Bd w' A n c B m d bs rs := h.kp hk (by simp)
theorem Own2.lt (h : Own2 Bd w A n c B m d bs rs) : ∀ k ∈ bl A B, Bd ≤ k ∧ k < w.heap.size := by
  intro k hk
  unfold bl at hk
  rw [List.mem_append] at hk
  rcases hk with hk | hk
  · cases A with
    | none => cases hk
    | some a => simp at hk; subst hk; exact h.o1.lt _ rfl
  · cases B with
    | none => cases hk
    | some a => simp at hk; subst hk; exact h.o2.lt _ rfl
theorem Own2.mono {B' : Nat} (h : Own2 Bd w A n c B m d bs rs) (hb : B' ≤ Bd) : Own2 B' w A n c B m d bs rs := ⟨h.o1.mono hb, h.o2.mono hb, h.ne⟩
theorem Own2.sl1 (h : Own2 Bd w A n c B m d bs rs) : Sl w A n (valsI bs) := by
  obtain ⟨A', c', e, hs⟩ := h.o1.form
  injection e with e1 e2 e3
  subst e1 e2
  exact hs
theorem Own2.sl2 (h : Own2 Bd w A n c B m d bs rs) : Sl w B m (valsI rs) := by
  obtain ⟨A', c', e, hs⟩ := h.o2.form
  injection e with e1 e2 e3
  subst e1 e2
  exact hs
theorem Own2.len1 (h : Own2 Bd w A n c B m d bs rs) : bs.length = n := h.o1.len
theorem Own2.len2 (h : Own2 Bd w A n c B m d bs rs) : rs.length = m := h.o2.len
theorem Own2.nil (Bd : Nat) (w : World) : Own2 Bd w none 0 0 none 0 0 [] [] := ⟨Own.nil _ _, Own.nil _ _, by intro a b h; cases h⟩
end

theorem tr2 {T : List Nat} {w w' w2 : World} (h : Kp T w w') (k : Kp T w' w2) : Kp T w w2 := (h.trans k).mono (by intro t ht _; rw [List.mem_append] at ht; exact ht.elim id id)

theorem ret_iM {a b : Int} (h : a = b) : Ending.returned (.int .i64 a) = .returned (.int .i64 b) := by rw [h]

set_option maxHeartbeats 400000 in
theorem markS {Bd : Nat} (A : Option Addr) (n c : Nat) (B : Option Addr) (m d : Nat) (bs rs : List Int) (k : Int) (w : World) (h : Own2 Bd w A n c B m d bs rs) (hn : n ≤ 1048576) (hm : m ≤ 1048576) (h0 : 0 ≤ k) (h1 : k ≤ 2097152) :
    Calls Try.prog 29 #[.agg #[.slice A n c, .slice B m d], .int .i64 k] w fun e w' => e = .returned (.int .i64 (k + n + m)) ∧ Kp (bl A B) w w' ∧ Own2 Bd w' A n c B m d (upto k n) (upto (k + n) m) := by
  have H := Lib.hid h
  have h2 : 0 ≤ k + (n : Int) := by omega
  have h3 : k + (n : Int) ≤ 4194304 := by omega
  clear h
  go_enter Try.func29, Try.ntmps29
  go_wp2_with fail
  refine (mark1 (B := Bd) A n c bs k _ (by exact H.out.o1.kp0 ((Kp.refl _).alloc _)) hn h0 (by omega)).mono ?_
  rintro e w1 ⟨rfl, hk1, ho1⟩
  have hk1' : Kp (bl A B) (w.alloc (.cells #[.slice A n c, .slice B m d] 27)) w1 := hk1.mono (by intro t ht _; rw [Option.mem_toList] at ht; exact blk1 ht)
  have hbx : w.heap.size ∉ bl A B := fun hh => by have := (H.out.lt _ hh).2; omega
  have c1 : w1.cell? ⟨w.heap.size, 1, none⟩ = some (.slice B m d) := (hk1'.cell (p := ⟨w.heap.size, 1, none⟩) (by simp) hbx).trans (by simp [go_sem])
  have K1 := Lib.hid (((Kp.refl w).alloc (.cells #[.slice A n c, .slice B m d] 27)).trans hk1')
  have O1 := Lib.hid ho1
  have O2 : Hid (Own Bd w1 (.slice B m d) rs) := Lib.hid ((H.out.o2.kp0 ((Kp.refl _).alloc _)).kp hk1 (by
    intro t ht hh
    rw [Option.mem_toList] at hh
    cases A with
    | none => cases hh
    | some a => cases B with
      | none => cases ht
      | some b =>
        injection ht with ht
        injection hh with hh
        exact H.out.ne a b rfl rfl (hh.trans ht.symm)))
  clear hk1 hk1' ho1 hbx
  go_wp2_with fail
  refine (mark1 (B := Bd) B m d rs (k + n) _ O2.out hm h2 h3).mono ?_
  rintro e w2 ⟨rfl, hk2, ho2⟩
  have hk2' : Kp (bl A B) w1 w2 := hk2.mono (by intro t ht _; rw [Option.mem_toList] at ht; exact blk2 ht)
  have O3 := Lib.hid (show Own2 Bd w2 A n c B m d (upto k n) (upto (k + n) m) from ⟨O1.out.kp hk2 (by
    intro t ht hh
    rw [Option.mem_toList] at hh
    cases A with
    | none => cases ht
    | some a => cases B with
      | none => cases hh
      | some b =>
        injection ht with ht
        injection hh with hh
        exact H.out.ne a b rfl rfl (ht.trans hh.symm)), ho2, H.out.ne⟩)
  have K2 := Lib.hid (K1.out.trans hk2')
  clear hk2 hk2' ho2
  go_wp2_with fail
  go_ret
  exact ⟨rfl, K2.out.mono (by intro t ht _; simpa using ht), O3.out⟩

set_option maxHeartbeats 400000 in
theorem heldS (A : Option Addr) (n c : Nat) (B : Option Addr) (m d : Nat) (k : Int) (w : World) (g : Sl w A n (valsI (upto k n))) (g2 : Sl w B m (valsI (upto (k + n) m))) (hn : n ≤ 1048576) (hm : m ≤ 1048576) (h0 : 0 ≤ k) (h1 : k ≤ 2097152) :
    Calls Try.prog 30 #[.agg #[.slice A n c, .slice B m d], .int .i64 k] w fun e w' => e = .returned (.int .i64 (k + n + m)) ∧ Kp [] w w' := by
  have H := Lib.hid g
  have H2 := Lib.hid g2
  have h2 : 0 ≤ k + (n : Int) := by omega
  have h3 : k + (n : Int) ≤ 4194304 := by omega
  have h4 : ¬ (k + (n : Int) < 0) := by omega
  have h5 : ¬ (k + (n : Int) + (m : Int) < 0) := by omega
  clear g g2
  go_enter Try.func30, Try.ntmps30
  go_wp2_with fail
  refine (held1 A n c k _ (by exact H.out.alloc _) hn h0 (by omega)).mono ?_
  rintro e w1 ⟨rfl, rfl⟩
  go_wp2_with fail
  refine (held1 B m d (k + n) _ (by exact H2.out.alloc _) hm h2 h3).mono ?_
  rintro e w2 ⟨rfl, rfl⟩
  go_wp2_with fail
  go_ret
  exact ⟨rfl, (Kp.refl _).alloc _⟩

theorem own_new {Bd : Nat} (w : World) (xs : List Int) (hm : xs.length ≤ 1048576) (hb : Bd ≤ w.heap.size) : Own Bd (w.alloc (.cells (valsI xs).toArray 2)) (.slice (some ⟨w.heap.size, 0, none⟩) xs.length xs.length) xs := by
  have := World.ownsRow_lit (base := Bd) (e := 2) (size := 1) w (valsI xs).toArray xs.length hb (by simp only [maxLen]; omega) (by simp [valsI])
  simpa [Own] using this

set_option maxHeartbeats 400000 in
/-- The law's own copy, as an owned scale. -/
theorem tos_own (A : Option Addr) (n c : Nat) (bs : List Int) (B : Option Addr) (m d : Nat) (rs : List Int) (w : World) (h : Sl w A n (valsI bs)) (h2 : Sl w B m (valsI rs)) (hn : n ≤ 1048576) (hm : m ≤ 1048576) :
    Calls Try.prog 20 #[.agg #[.slice A n c, .slice B m d]] w fun e w' => ∃ g1 g2, e = .returned (.agg #[.slice (some ⟨g1, 0, none⟩) n n, .slice (some ⟨g2, 0, none⟩) m m]) ∧ Kp [] w w' ∧
      Own2 w.heap.size w' (some ⟨g1, 0, none⟩) n n (some ⟨g2, 0, none⟩) m m bs rs ∧ Row w' g1 2 (valsI bs) ∧ Row w' g2 2 (valsI rs) := by
  have e1 : n = bs.length := by rw [← valsI_len, h.len]
  have e2 : m = rs.length := by rw [← valsI_len, h2.len]
  subst e1
  subst e2
  have HA := Lib.hid h
  have HB := Lib.hid h2
  clear h h2
  go_enter Try.func20, Try.ntmps20
  go_wp2_with fail
  refine (to_anyI _ _ _ bs _ (by exact ((HA.out.alloc _).alloc _).alloc _) hn).mono ?_
  rintro e w' ⟨rfl, rfl⟩
  go_wp2_with fail
  refine (to_anyI _ _ _ rs _ (by exact (((HB.out.alloc _).alloc _).alloc _).alloc _) hm).mono ?_
  rintro e w' ⟨rfl, rfl⟩
  go_wp2_with fail
  refine bodyPost_ret (v := .agg #[.slice (some ⟨w.heap.size + 1 + 1 + 1, 0, none⟩) bs.length bs.length, .slice (some ⟨w.heap.size + 1 + 1 + 1 + 1, 0, none⟩) rs.length rs.length]) (by simp [results, Try.results20, go_sem]) rfl ⟨_, _, rfl, ?_, ?_, ?_, ?_⟩
  · exact (((((Kp.refl _).alloc _).alloc _).alloc _).alloc _).alloc _
  · refine ⟨?_, ?_, ?_⟩
    · refine Own.kp0 ?_ ((Kp.refl _).alloc _)
      simpa using own_new (Bd := w.heap.size) (((w.alloc _).alloc _).alloc _) bs hn (by simp; omega)
    · simpa using own_new (Bd := w.heap.size) ((((w.alloc _).alloc _).alloc _).alloc _) rs hm (by simp; omega)
    · intro a b ha hb
      cases ha
      cases hb
      simp
  · exact Row.kp (by simpa using Row.new (((w.alloc _).alloc _).alloc _) 2 (valsI bs)) ((Kp.refl _).alloc _)
  · simpa using Row.new ((((w.alloc _).alloc _).alloc _).alloc _) 2 (valsI rs)

/-- What a function hands back: a scale of its own and a flag; what was there stands. -/
def SPost (bs rs : List Int) (ok : Bool) (w : World) (e : Ending) (w' : World) : Prop :=
  ∃ A c B d, e = .returned (.tuple #[.agg #[.slice A bs.length c, .slice B rs.length d], .bool ok]) ∧ Kp [] w w' ∧ Own2 w.heap.size w' A bs.length c B rs.length d bs rs

theorem Bx.keep {w w' : World} {p : Nat} {A : Option Addr} {n c : Nat} {B : Option Addr} {m d : Nat} {T : List Nat} (h : Bx w p A n c B m d) (hk : Kp T w w') (hn : p ∉ T) : Bx w' p A n c B m d :=
  ⟨Nat.lt_of_lt_of_le h.lt hk.size, (hk.cell (p := ⟨p, 0, none⟩) h.lt hn).trans h.c0, (hk.cell (p := ⟨p, 1, none⟩) h.lt hn).trans h.c1⟩
end Go.Proofs.Ytloffnamjgnkhaa
