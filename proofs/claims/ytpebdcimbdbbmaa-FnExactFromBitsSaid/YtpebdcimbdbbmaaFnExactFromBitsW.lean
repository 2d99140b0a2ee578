/-
  The walk of the law on FromBits: it returns true. Conditions: the number fits an int64.
-/
import Derived.Test.YtpebdcimbdbbmaaFrom
import Derived.WalkSmall
namespace Go.Proofs.Ytpebdcimbdbbmaa.fnExactFromBits
open Go.RowKit Flo

theorem f_spec (n : Int) (hb : inB n 0 4294967295 = true) (w : World) : Calls Try.prog 17 #[.int .i64 n] w fun e w' => e = .returned (.tuple #[.float .f32 n.toNat, .bool true]) ∧ w = w' := by
  obtain ⟨h0, h1⟩ := inB_iff.1 hb
  go_enter Try.func17, Try.ntmps17
  go_wp2_with (first
    | (go_at_call 53; refine (in_spec _ _ _ _).mono ?_; rintro e w' ⟨rfl, rfl⟩)
    | (go_at_call 54; refine (from_low _ h0 h1 _).mono ?_; rintro e w' ⟨rfl, rfl⟩))
  go_ret2
  exact ⟨rfl, rfl⟩
theorem f_spec_no (n : Int) (hb : inB n 0 4294967295 = false) (w : World) : Calls Try.prog 17 #[.int .i64 n] w fun e w' => e = .returned (.tuple #[.float .f32 0, .bool false]) ∧ w = w' := by
  go_enter Try.func17, Try.ntmps17
  go_wp2_with (go_at_call 53; refine (in_spec _ _ _ _).mono ?_; rintro e w' ⟨rfl, rfl⟩)
  go_ret2
  exact ⟨rfl, rfl⟩
theorem f_impl (n : Int) (hb : inB n 0 4294967295 = true) (w : World) : Calls Try.prog 18 #[.int .i64 n] w fun e w' => e = .returned (.tuple #[.float .f32 n.toNat, .bool true]) ∧ w = w' := by
  obtain ⟨h0, h1⟩ := inB_iff.1 hb
  have hc := call_from32
  go_enter Try.func18, Try.ntmps18
  go_wp2_with (first
    | (go_at_call 55; refine (in_impl _ _ _ _).mono ?_; rintro e w' ⟨rfl, rfl⟩))
  go_ret2
  exact ⟨rfl, rfl⟩
theorem f_impl_no (n : Int) (hb : inB n 0 4294967295 = false) (w : World) : Calls Try.prog 18 #[.int .i64 n] w fun e w' => e = .returned (.tuple #[.float .f32 0, .bool false]) ∧ w = w' := by
  go_enter Try.func18, Try.ntmps18
  go_wp2_with (go_at_call 55; refine (in_impl _ _ _ _).mono ?_; rintro e w' ⟨rfl, rfl⟩)
  go_ret2
  exact ⟨rfl, rfl⟩

theorem walk (a0 : Int) (w : World) (w0 : (Lit.int .i64 a0).wf = true) :
    Calls Try.prog 3 #[.int .i64 a0] w fun e w' => e = .returned (.bool true) ∧ Below w.heap.size w w' := by
  clear w0
  cases h : inB a0 0 4294967295
  · have hr : Rep .f32 (some 0) 0 := rep_lit _ _ (by decide +kernel)
    go_enter Try.func3, Try.ntmps3
    go_wp2_with (first
      | (refine wpList_up rfl _ _ _ rfl Try.underlying22 Try.underlying26 _ rfl hr ?_; intro r n hu)
      | (go_at_call 17; refine (f_spec_no _ h _).mono ?_; rintro e w' ⟨rfl, rfl⟩)
      | (go_at_call 18; refine (f_impl_no _ h _).mono ?_; rintro e w' ⟨rfl, rfl⟩)
      | (go_at_call 19; refine (same_any (by assumption) (by assumption) _).mono ?_; rintro e w' ⟨rfl, k, rfl⟩))
    go_ret
    exact ⟨rfl, below_drewN (Below.refl _ _) _⟩
  · have hr := rep_nat a0 (inB_iff.1 h).2
    go_enter Try.func3, Try.ntmps3
    go_wp2_with (first
      | (refine wpList_up rfl _ _ _ rfl Try.underlying22 Try.underlying26 _ rfl hr ?_; intro r n hu)
      | (go_at_call 17; refine (f_spec _ h _).mono ?_; rintro e w' ⟨rfl, rfl⟩)
      | (go_at_call 18; refine (f_impl _ h _).mono ?_; rintro e w' ⟨rfl, rfl⟩)
      | (go_at_call 19; refine (same_any (by assumption) (by assumption) _).mono ?_; rintro e w' ⟨rfl, k, rfl⟩))
    go_ret
    exact ⟨rfl, below_drewN (Below.refl _ _) _⟩
end Go.Proofs.Ytpebdcimbdbbmaa.fnExactFromBits
