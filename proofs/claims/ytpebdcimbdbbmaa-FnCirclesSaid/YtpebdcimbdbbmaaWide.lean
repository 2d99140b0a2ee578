/-
  The library's functions on a float64's bits, math.Abs, math.IsInf, and the program's tests for a finite number: what a call gives. Conditions: the bits are a float's.
-/
import Derived.Test.YtpebdcimbdbbmaaRows
import Derived.Test.YtpebdcimbdbbmaaVal
import Derived.Laws.Externs
import Derived.KernelRfl
import Derived.Lib.Hide
namespace Go.Proofs.Ytpebdcimbdbbmaa
open Go.RowKit Flo

theorem call_bits64 (b : Nat) (w : World) : (callFunc 92 #[.float .f64 b]).run Try.prog w = .ok (.value (.int .u64 b)) w := by
  rw [run_callFunc_extern Try.func92 (by kernel_rfl) (by kernel_rfl) (by kernel_rfl) (e := Extern.MathFloatBits.float64bits) (by kernel_rfl)]
  rfl

theorem call_from64 (n : Int) (w : World) : (callFunc 91 #[.int .u64 n]).run Try.prog w = .ok (.value (.float .f64 n.toNat)) w := by
  rw [run_callFunc_extern Try.func91 (by kernel_rfl) (by kernel_rfl) (by kernel_rfl) (e := Extern.MathFloatBits.float64frombits) (by kernel_rfl)]
  rfl

theorem abs_bits (b : Nat) (h : b < 18446744073709551616) : (bits .andNot .u64 (b : Int) 9223372036854775808).toNat = absw b := by
  have e := u64_andNot_nat b 9223372036854775808 h (by omega)
  rw [show ((9223372036854775808 : Nat) : Int) = 9223372036854775808 from rfl] at e
  rw [e, Int.toNat_natCast]
  have h2 := Nat.and_two_pow_sub_one_eq_mod b 63
  exact h2

theorem abs_any {b : Nat} {v : Option Nat} (h : Rep .f64 v b) (w : World) : Calls Try.prog 85 #[.float .f64 b] w fun e w' => e = .returned (.float .f64 (absw b)) ∧ w = w' := by
  have hb := call_bits64
  have hf := call_from64
  go_enter Try.func85, Try.ntmps85
  go_wp2
  go_ret
  refine ⟨?_, rfl⟩
  show Ending.returned (.float .f64 (bits BinOp.andNot IntKind.u64 (↑b) 9223372036854775808).toNat) = _
  rw [abs_bits b h.lt]

theorem rep_abs {b : Nat} {v : Option Nat} (h : Rep .f64 v b) : Rep .f64 (tell .f64 (absw b)) (absw b) := rep_tell _ _ (absw_lt b)

/-- Is it an infinity? -/
def infB (b : Nat) : Bool := decide (rg .f64 b = 9218868437227405312)
/-- Is it a finite number? -/
def endB (b : Nat) : Bool := decide (rg .f64 b < 9218868437227405312)
def endS (b : Nat) : Bool := decide (rg .f32 b < 2139095040)

theorem inf_test (b : Nat) : (FloatKind.f64.format.order (absw b) 9218868437227405311 == some .gt) = infB b := by
  have hI : FloatKind.f64.format.infRung = 9218868437227405312 := rfl
  unfold infB
  cases h : nan .f64 b
  · have h1 := (not_nan_iff .f64 b).1 h
    have hm : nan .f64 9218868437227405311 = false := by decide +kernel
    rw [order_pos .f64 _ _ (by rw [absw_nan]; exact h) hm (absw_sg b) (by decide +kernel), absw_rg]
    have : rg .f64 9218868437227405311 = 9218868437227405311 := by decide +kernel
    rw [this]
    show (some (compareOfLessAndEq (rg .f64 b) 9218868437227405311) == some .gt) = _
    unfold compareOfLessAndEq
    rw [hI] at h1
    by_cases h2 : rg .f64 b < 9218868437227405311
    · rw [if_pos h2, decide_eq_false (by omega)]; rfl
    · rw [if_neg h2]
      by_cases h3 : rg .f64 b = 9218868437227405311
      · rw [if_pos h3, decide_eq_false (by omega)]; rfl
      · rw [if_neg h3, decide_eq_true (by omega)]; rfl
  · rw [order_left (by rw [absw_nan]; exact h)]
    have h1 : ¬ rg .f64 b ≤ FloatKind.f64.format.infRung := fun hh => by rw [(not_nan_iff .f64 b).2 hh] at h; cases h
    rw [hI] at h1
    rw [decide_eq_false (by omega)]; rfl

theorem ret_bool {a b : Bool} (h : a = b) : Ending.returned (.bool a) = .returned (.bool b) := by rw [h]

theorem inf_any {b : Nat} {v : Option Nat} (h : Rep .f64 v b) (w : World) : Calls Try.prog 101 #[.float .f64 b, .int .i64 0] w fun e w' => e = .returned (.bool (infB b)) ∧ w = w' := by
  have HT := Lib.hid (inf_test b)
  go_enter Try.func101, Try.ntmps101
  go_wp2_with (go_at_call 85; refine (abs_any h _).mono ?_; rintro e w' ⟨rfl, rfl⟩)
  go_ret
  exact ⟨ret_bool HT.out, rfl⟩

theorem none_any (b : Nat) (w : World) : Calls Try.prog 100 #[.float .f64 b] w fun e w' => e = .returned (.bool (nan .f64 b)) ∧ w = w' := by
  cases h : nan .f64 b
  · have ho := order_self h
    go_enter Try.func100, Try.ntmps100
    go_wp2
    go_ret
    exact ⟨rfl, rfl⟩
  · have ho := order_nan h
    go_enter Try.func100, Try.ntmps100
    go_wp2
    go_ret
    exact ⟨rfl, rfl⟩

theorem end_of_nan {b : Nat} (h : nan .f64 b = true) : endB b = false := by
  have h1 : ¬ rg .f64 b ≤ FloatKind.f64.format.infRung := fun hh => by rw [(not_nan_iff .f64 b).2 hh] at h; cases h
  rw [show FloatKind.f64.format.infRung = 9218868437227405312 from rfl] at h1
  exact decide_eq_false (by omega)
theorem end_of_num {b : Nat} (h : nan .f64 b = false) : endB b = !infB b := by
  have h1 := (not_nan_iff .f64 b).1 h
  rw [show FloatKind.f64.format.infRung = 9218868437227405312 from rfl] at h1
  unfold endB infB
  by_cases h2 : rg .f64 b = 9218868437227405312
  · simp [h2]
  · simp [h2]; omega
theorem ends_of_nan {b : Nat} (h : nan .f32 b = true) : endS b = false := by
  have h1 : ¬ rg .f32 b ≤ FloatKind.f32.format.infRung := fun hh => by rw [(not_nan_iff .f32 b).2 hh] at h; cases h
  rw [show FloatKind.f32.format.infRung = 2139095040 from rfl] at h1
  exact decide_eq_false (by omega)

theorem ended_any {b : Nat} {v : Option Nat} (h : Rep .f64 v b) (w : World) : Calls Try.prog 82 #[.float .f64 b] w fun e w' => e = .returned (.bool (endB b)) ∧ w = w' := by
  cases hn : nan .f64 b
  · rw [end_of_num hn]
    go_enter Try.func82, Try.ntmps82
    go_wp2_with (first
      | (go_at_call 100; refine (none_any _ _).mono ?_; rintro e w' ⟨rfl, rfl⟩)
      | (go_at_call 101; refine (inf_any h _).mono ?_; rintro e w' ⟨rfl, rfl⟩))
    go_ret
    exact ⟨rfl, rfl⟩
  · rw [end_of_nan hn]
    go_enter Try.func82, Try.ntmps82
    go_wp2_with (first
      | (go_at_call 100; refine (none_any _ _).mono ?_; rintro e w' ⟨rfl, rfl⟩)
      | (go_at_call 101; refine (inf_any h _).mono ?_; rintro e w' ⟨rfl, rfl⟩))
    go_ret
    exact ⟨rfl, rfl⟩

theorem end_up {v : Option Nat} {x r : Nat} (hx : Rep .f32 v x) (hr : Rep .f64 (up v) r) : endB r = endS x := by
  cases v with
  | none => rw [end_of_nan hr.none, ends_of_nan hx.none]
  | some c =>
    have e : r = upw c := hr.some
    have e2 := hx.some
    subst e2
    have hn := hx.2.2
    rw [e]
    have h1 := (not_nan_iff .f32 x).1 hn
    unfold endB endS
    rcases Nat.lt_or_eq_of_le h1 with h2 | h2
    · obtain ⟨q, eq, hq, _⟩ := upw_fin x h2
      rw [eq, (word_sg .f64 _ _ (Nat.le_of_lt hq)).2]
      rw [decide_eq_true (show q < 9218868437227405312 from hq), decide_eq_true (show rg .f32 x < 2139095040 from h2)]
    · rw [upw_inf x h2, (word_sg .f64 _ _ (Nat.le_refl _)).2]
      rw [show rg .f32 x = 2139095040 from h2, show FloatKind.f64.format.infRung = 9218868437227405312 from rfl]
      simp

theorem finite_impl {v : Option Nat} {x : Nat} (h : Rep .f32 v x) (w : World) : Calls Try.prog 73 #[.float .f32 x] w fun e w' => e = .returned (.bool (endS x)) ∧ ∃ n, w' = w.drewN n := by
  go_enter Try.func73, Try.ntmps73
  go_wp2_with (first
    | (refine wpList_up rfl _ _ _ rfl Try.underlying22 Try.underlying26 _ rfl h ?_; intro r n hr)
    | (go_at_call 82; refine (ended_any hr _).mono ?_; rintro e w' ⟨rfl, rfl⟩))
  go_ret
  exact ⟨ret_bool (end_up h hr), n, rfl⟩

theorem sub_self_fin {k : FloatKind} {x : Nat} (h : rg k x < k.format.infRung) : floatBits .sub k x x = some 0 := by
  obtain ⟨m, e, er, _⟩ := read_num k x h
  show k.format.sub x x = some 0
  unfold Ieee.Format.sub
  rw [er]
  cases sg k x <;> simp [Ieee.Datum.opposite, Ieee.Datum.sum, Ieee.signed, Ieee.Format.write, Ieee.Format.nearest, Ieee.Format.word, Int.add_right_neg, Int.add_left_neg]

theorem sub_self_inf {k : FloatKind} {x : Nat} (h : rg k x = k.format.infRung) : floatBits .sub k x x = none := by
  have er := read_inf k x h
  show k.format.sub x x = none
  unfold Ieee.Format.sub
  rw [er]
  cases sg k x <;> simp [Ieee.Datum.opposite, Ieee.Datum.sum]

theorem ar_self {v : Option Nat} {x : Nat} (h : Rep .f32 v x) : ar .sub .f32 v v = if endS x then some 0 else none := by
  rw [ar_of h h]
  cases hn : nan .f32 x
  · have h1 := (not_nan_iff .f32 x).1 hn
    rcases Nat.lt_or_eq_of_le h1 with h2 | h2
    · rw [sub_self_fin h2, show endS x = true from decide_eq_true h2]; rfl
    · rw [sub_self_inf h2, show endS x = false from decide_eq_false (by rw [h2]; exact Nat.lt_irrefl _)]; rfl
  · rw [floatBits_left hn, ends_of_nan hn]; rfl

theorem end_test {v : Option Nat} {x r : Nat} (h : Rep .f32 v x) (hr : Rep .f32 (ar .sub .f32 v v) r) : (FloatKind.f32.format.order r 0 == some .eq) = endS x := by
  rw [ar_self h] at hr
  cases he : endS x
  · rw [he] at hr
    rw [order_left (Rep.none (by simpa using hr))]; rfl
  · rw [he] at hr
    have e : r = 0 := Rep.some (by simpa using hr)
    rw [e]; decide +kernel

theorem finite_spec {v : Option Nat} {x : Nat} (h : Rep .f32 v x) (w : World) : Calls Try.prog 78 #[.float .f32 x] w fun e w' => e = .returned (.bool (endS x)) ∧ ∃ n, w' = w.drewN n := by
  go_enter Try.func78, Try.ntmps78
  go_wp2_with (refine wpList_ar rfl _ _ _ _ _ rfl rfl _ _ _ rfl rfl h h ?_; intro r n hr; have HT := Lib.hid (end_test h hr))
  go_ret
  exact ⟨ret_bool HT.out, n, rfl⟩
end Go.Proofs.Ytpebdcimbdbbmaa
