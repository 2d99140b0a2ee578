/-
  Rounding down, and a float as a whole number: where it is not too great. Conditions: those that each theorem names.
-/
import Derived.Test.YtpebdcimbdbbmaaLogK
namespace Go.Proofs.Ytpebdcimbdbbmaa
open Go.RowKit Flo

theorem floor_any {b : Nat} (h : nan .f64 b = false) (w : World) : Calls Try.prog 80 #[.float .f64 b] w fun e w' => e = .returned (.float .f64 (FloatKind.f64.encode ((FloatKind.f64.decode b).integral .down))) ∧ w = w' := by
  have hrun : ∀ w, (callFunc 98 #[.float .f64 b]).run Try.prog w = .ok (.value (.float .f64 (FloatKind.f64.encode ((FloatKind.f64.decode b).integral .down)))) w := by
    intro w
    rw [run_callFunc_extern Try.func98 (by kernel_rfl) (by kernel_rfl) (by kernel_rfl) (e := Extern.MathFloor.toIntegral "math.archFloor" .down) (by kernel_rfl)]
    have hd : (FloatKind.f64.decode b).isNaN = false := h
    have e : Extern.MathFloor.toIntegral "math.archFloor" .down #[.float .f64 b] = (match FloatKind.f64.decode b with
      | .nan s t => if FloatKind.f64.format.quiet t = t then pure (.float .f64 b) else do
        let kept ← choose (.extern "math.Floor,Ceil,Trunc,RoundToEven.signallingNaN kept" 2)
        pure (.float .f64 (if kept == 1 then b else FloatKind.f64.encode (.nan s (FloatKind.f64.format.quiet t))))
      | d => pure (.float .f64 (FloatKind.f64.encode (d.integral .down)))) := rfl
    rw [e]
    cases hdd : FloatKind.f64.decode b with
    | nan s t => rw [hdd] at hd; cases hd
    | infinity s => rfl
    | number s m p => rfl
  go_enter Try.func80, Try.ntmps80
  go_wp2
  go_ret
  exact ⟨rfl, rfl⟩

namespace Flo
theorem cut_up {way : Ieee.Toward} {neg : Bool} {n d N : Nat} (h : n ≤ N * 2 ^ d) : way.cut neg n d ≤ N + 1 := by
  unfold Ieee.Toward.cut
  simp only [Nat.shiftLeft_eq, Nat.one_mul]
  have hlt : n < 2 ^ (n.log2 + 1) := Nat.lt_log2_self
  have hb : ∀ b : Bool, b.toNat ≤ 1 := fun b => by cases b <;> decide
  have hq : n / 2 ^ min d (n.log2 + 2) ≤ N := by
    by_cases hd : d ≤ n.log2 + 2
    · rw [Nat.min_eq_left hd]
      exact Nat.div_le_of_le_mul (by rw [Nat.mul_comm]; exact h)
    · rw [Nat.min_eq_right (by omega)]
      have h2 : 2 ^ (n.log2 + 2) = 2 * 2 ^ (n.log2 + 1) := by rw [Nat.pow_succ, Nat.mul_comm]
      rw [Nat.div_eq_of_lt (by omega)]
      exact Nat.zero_le _
  exact Nat.add_le_add hq (hb _)
theorem cut_trunc {neg : Bool} {n d N : Nat} (h : n ≤ N * 2 ^ d) : Ieee.Toward.zero.cut neg n d ≤ N := by
  unfold Ieee.Toward.cut
  simp only [Nat.shiftLeft_eq, Nat.one_mul]
  have hlt : n < 2 ^ (n.log2 + 1) := Nat.lt_log2_self
  show n / 2 ^ min d (n.log2 + 2) + 0 ≤ N
  rw [Nat.add_zero]
  by_cases hd : d ≤ n.log2 + 2
  · rw [Nat.min_eq_left hd]
    exact Nat.div_le_of_le_mul (by rw [Nat.mul_comm]; exact h)
  · rw [Nat.min_eq_right (by omega)]
    have h2 : 2 ^ (n.log2 + 2) = 2 * 2 ^ (n.log2 + 1) := by rw [Nat.pow_succ, Nat.mul_comm]
    rw [Nat.div_eq_of_lt (by omega)]
    exact Nat.zero_le _

/-- What is left before the point. -/
theorem whole_le {m : Nat} {p : Int} {t : Nat} (hp : -1074 ≤ p) (h : m * 2 ^ (p - -1074).toNat ≤ 2 ^ (t + 1074)) : m * 2 ^ p.toNat ≤ 2 ^ t * 2 ^ (-p).toNat := by
  rw [← Nat.pow_add]
  obtain ⟨E, hE⟩ : ∃ E : Nat, E = 1074 := ⟨_, rfl⟩
  rw [← hE] at h
  have h2 := Nat.mul_le_mul_right (2 ^ (-p).toNat) h
  rw [Nat.mul_assoc, ← Nat.pow_add, ← Nat.pow_add, show (p - -1074).toNat + (-p).toNat = p.toNat + E by omega, show t + E + (-p).toNat = t + (-p).toNat + E by omega, Nat.pow_add 2 _ E, Nat.pow_add 2 _ E, ← Nat.mul_assoc] at h2
  exact Nat.le_of_mul_le_mul_right h2 (Nat.two_pow_pos _)

/-- Rounded down. -/
theorem floor_bd {b t : Nat} (h : Bd .f64 (some b) (t + 1074)) (ht : t < 1000) : Bd .f64 (some (FloatKind.f64.encode ((FloatKind.f64.decode b).integral .down))) (t + 1 + 1074) := by
  obtain ⟨c, m, p, e, hr, hp, _, h1⟩ := h.read
  injection e with e
  subst e
  have hd : FloatKind.f64.decode b = .number (sg .f64 b) m p := hr
  rw [hd]
  show Bd .f64 (some (FloatKind.f64.format.nearest (sg .f64 b) (Ieee.Toward.down.cut (sg .f64 b) (m <<< p.toNat) (-p).toNat) 0)) _
  rw [lp64] at hp h1
  have hw := whole_le hp h1
  rw [← Nat.shiftLeft_eq] at hw
  have hc := cut_up (way := .down) (neg := sg .f64 b) hw
  refine bd_nearest (show t + 1 + 1074 < 2098 by omega) ?_
  rw [lp64]
  have h2 : Ieee.Toward.down.cut (sg .f64 b) (m <<< p.toNat) (-p).toNat ≤ 2 ^ (t + 1) := by
    have := Nat.two_pow_pos t
    rw [Nat.pow_succ]
    omega
  have h3 := Nat.mul_le_mul_right (2 ^ (0 - -1074 : Int).toNat) h2
  rw [← Nat.pow_add] at h3
  exact h3

/-- As a whole number. -/
theorem f2i_bd {b t : Nat} (h : Bd .f64 (some b) (t + 1074)) (ht : t ≤ 62) : ∃ n, floatToIntVal .f64 b .i64 = some n := by
  obtain ⟨c, m, p, e, hr, hp, _, h1⟩ := h.read
  injection e with e
  subst e
  have hd : FloatKind.f64.decode b = .number (sg .f64 b) m p := hr
  unfold floatToIntVal
  rw [hd]
  have hi : (Ieee.Datum.number (sg .f64 b) m p).toInt .zero = some (Ieee.signed (sg .f64 b) (Ieee.Toward.zero.cut (sg .f64 b) (m <<< p.toNat) (-p).toNat) 0) := rfl
  rw [hi]
  rw [lp64] at hp h1
  have hw := whole_le hp h1
  rw [← Nat.shiftLeft_eq] at hw
  have hc := cut_trunc (neg := sg .f64 b) hw
  have h62 : 2 ^ t ≤ 2 ^ 62 := Nat.pow_le_pow_right (by decide) ht
  have ha := signed_abs (sg .f64 b) (Ieee.Toward.zero.cut (sg .f64 b) (m <<< p.toNat) (-p).toNat) 0
  rw [Nat.pow_zero, Nat.mul_one] at ha
  generalize Ieee.signed (sg .f64 b) (Ieee.Toward.zero.cut (sg .f64 b) (m <<< p.toNat) (-p).toNat) 0 = z at ha
  refine ⟨z, ?_⟩
  show (if IntKind.i64.min ≤ z ∧ z ≤ IntKind.i64.max then some z else none) = some z
  rw [if_pos ?_]
  have e1 : IntKind.i64.min = -9223372036854775808 := by decide
  have e2 : IntKind.i64.max = 9223372036854775807 := by decide
  rw [e1, e2]
  omega
end Flo

theorem cv_int6 {b : Nat} {n : Int} (h : floatToIntVal .f64 b .i64 = some n) (w : World) : (convert 26 2 (.float .f64 b)).run Try.prog w = .ok (.int .i64 n) w :=
  run_convert_float_int w 26 2 .f64 .i64 b n (by rw [Try.underlying26]; rfl) Try.underlying2 h
end Go.Proofs.Ytpebdcimbdbbmaa
