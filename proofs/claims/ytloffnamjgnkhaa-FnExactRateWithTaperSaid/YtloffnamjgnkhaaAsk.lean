/-
  Are a scale, an amount and a way of rounding ones: the reference's and the program's functions. Conditions: the slices read as lists that are not too long.
-/
import Derived.Test.YtloffnamjgnkhaaValidI
namespace Go.Proofs.Ytloffnamjgnkhaa
open Go.RowKit Mem

/-- A valid scale, an amount and a way of rounding. -/
def Asked (bs rs : List Int) (cents round : Int) : Prop := OkS bs rs ∧ inB cents 0 1000000000000 = true ∧ inB round 0 3 = true

theorem way_spec (n : Int) (w : World) : Calls Try.prog 104 #[.int .i64 n] w fun e w' => e = .returned (.bool (inB n 0 3)) ∧ w = w' := by
  go_enter Try.func104, Try.ntmps104
  go_wp2_with (go_at_call 76; refine (in_spec _ _ _ _).mono ?_; rintro e w' ⟨rfl, rfl⟩)
  go_ret
  exact ⟨rfl, rfl⟩
theorem way_impl (n : Int) (w : World) : Calls Try.prog 102 #[.int .i64 n] w fun e w' => e = .returned (.bool (inB n 0 3)) ∧ w = w' := by
  go_enter Try.func102, Try.ntmps102
  go_wp2_with (go_at_call 78; refine (in_impl _ _ _ _).mono ?_; rintro e w' ⟨rfl, rfl⟩)
  go_ret
  exact ⟨rfl, rfl⟩

set_option maxHeartbeats 1000000 in
theorem ask_impl (A : Option Addr) (n c : Nat) (bs : List Int) (B : Option Addr) (m d : Nat) (rs : List Int) (cents round : Int) (w : World)
    (h : Sl w A n (valsI bs)) (h2 : Sl w B m (valsI rs)) (hn : n ≤ 1048576) (hm : m ≤ 1048576) :
    Calls Try.prog 65 #[.agg #[.slice A n c, .slice B m d], .int .i64 cents, .int .i64 round] w (TellPost (Asked bs rs cents round) w) := by
  have HA := Lib.hid h
  have HB := Lib.hid h2
  clear h h2
  have HW := Lib.hid ((Kp.refl w).alloc (.cells #[.slice A n c, .slice B m d] 27))
  go_enter Try.func65, Try.ntmps65
  go_wp2_with fail
  refine (valid_impl A n c bs B m d rs _ (by exact HA.out.kp HW.out) (by exact HB.out.kp HW.out) hn hm).mono ?_
  rintro e w1 ⟨b1, rfl, hb1, hk⟩
  have HB1 := Lib.hid hb1
  have HK := Lib.hid (HW.out.tr hk)
  clear hb1 hk
  cases b1
  · have HF := Lib.hid (show ¬ Asked bs rs cents round from fun hh => by have := HB1.out.2 hh.1; cases this)
    go_wp2_with fail
    go_ret
    exact TellPost.no HF.out HK.out
  · have HV := Lib.hid (HB1.out.1 rfl)
    cases hc : inB cents 0 1000000000000
    · have HF := Lib.hid (show ¬ Asked bs rs cents round from fun hh => by have := hh.2.1; rw [hc] at this; cases this)
      go_wp2_with (go_at_call 94; refine (cents_impl _ _).mono ?_; rintro e w' ⟨rfl, rfl⟩)
      go_ret
      exact TellPost.no HF.out HK.out
    · cases hr : inB round 0 3
      · have HF := Lib.hid (show ¬ Asked bs rs cents round from fun hh => by have := hh.2.2; rw [hr] at this; cases this)
        go_wp2_with (first | (go_at_call 94; refine (cents_impl _ _).mono ?_; rintro e w' ⟨rfl, rfl⟩) | (go_at_call 102; refine (way_impl _ _).mono ?_; rintro e w' ⟨rfl, rfl⟩))
        go_ret
        exact TellPost.no HF.out HK.out
      · have HF := Lib.hid (show Asked bs rs cents round from ⟨HV.out, hc, hr⟩)
        go_wp2_with (first | (go_at_call 94; refine (cents_impl _ _).mono ?_; rintro e w' ⟨rfl, rfl⟩) | (go_at_call 102; refine (way_impl _ _).mono ?_; rintro e w' ⟨rfl, rfl⟩))
        go_ret
        exact TellPost.yes HF.out HK.out

set_option maxHeartbeats 1000000 in
theorem can_spec (A : Option Addr) (n c : Nat) (bs : List Int) (B : Option Addr) (m d : Nat) (rs : List Int) (p : Nat) (cents round : Int) (w : World) (hp0 : w.cell? ⟨p, 0, none⟩ = some (.slice A n c)) (hp1 : w.cell? ⟨p, 1, none⟩ = some (.slice B m d))
    (h : Sl w A n (valsI bs)) (h2 : Sl w B m (valsI rs)) (hn : n ≤ 1048576) (hm : m ≤ 1048576) :
    Calls Try.prog 82 #[.pointer (some ⟨p, 0, none⟩), .int .i64 cents, .int .i64 round] w (AscPost (Asked bs rs cents round) w) := by
  have HI := Lib.hid (is_any A n c bs B m d rs p w hp0 hp1 h h2 hn hm)
  clear h h2 hp0 hp1
  go_enter Try.func82, Try.ntmps82
  go_wp2_with fail
  refine HI.out.mono ?_
  rintro e w1 ⟨b1, rfl, hb1, q, rfl⟩
  have HB1 := Lib.hid hb1
  clear hb1
  cases b1
  · have HF := Lib.hid (show ¬ Asked bs rs cents round from fun hh => by have := HB1.out.2 hh.1; cases this)
    go_wp2_with fail
    go_ret
    exact ⟨_, rfl, ⟨fun hh => (by cases hh), fun hh => (HF.out hh).elim⟩, _, rfl⟩
  · have HV := Lib.hid (HB1.out.1 rfl)
    cases hc : inB cents 0 1000000000000
    · have HF := Lib.hid (show ¬ Asked bs rs cents round from fun hh => by have := hh.2.1; rw [hc] at this; cases this)
      go_wp2_with (go_at_call 63; refine (cents_spec _ _).mono ?_; rintro e w' ⟨rfl, rfl⟩)
      go_ret
      exact ⟨_, rfl, ⟨fun hh => (by cases hh), fun hh => (HF.out hh).elim⟩, _, rfl⟩
    · cases hr : inB round 0 3
      · have HF := Lib.hid (show ¬ Asked bs rs cents round from fun hh => by have := hh.2.2; rw [hr] at this; cases this)
        go_wp2_with (first | (go_at_call 63; refine (cents_spec _ _).mono ?_; rintro e w' ⟨rfl, rfl⟩) | (go_at_call 104; refine (way_spec _ _).mono ?_; rintro e w' ⟨rfl, rfl⟩))
        go_ret
        exact ⟨_, rfl, ⟨fun hh => (by cases hh), fun hh => (HF.out hh).elim⟩, _, rfl⟩
      · have HF := Lib.hid (show Asked bs rs cents round from ⟨HV.out, hc, hr⟩)
        go_wp2_with (first | (go_at_call 63; refine (cents_spec _ _).mono ?_; rintro e w' ⟨rfl, rfl⟩) | (go_at_call 104; refine (way_spec _ _).mono ?_; rintro e w' ⟨rfl, rfl⟩))
        go_ret
        exact ⟨_, rfl, ⟨fun _ => HF.out, fun _ => rfl⟩, _, rfl⟩
end Go.Proofs.Ytloffnamjgnkhaa
