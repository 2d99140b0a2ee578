/-
  The law's own test that two floats are the same: true of two that are told alike. Conditions: both bits are told by one told number.
-/
import Derived.Test.YtpebdcimbdbbmaaWide
namespace Go.Proofs.Ytpebdcimbdbbmaa
open Go.RowKit Flo

theorem order_alike {k : FloatKind} {v : Option Nat} {x y z : Nat} (hx : Rep k v x) (hy : Rep k v y) : k.format.order x z = k.format.order y z := by
  cases v with
  | none => rw [order_left hx.none, order_left hy.none]
  | some c => rw [hx.some, hy.some]

theorem same_any {v : Option Nat} {a b : Nat} (ha : Rep .f64 v a) (hb : Rep .f64 v b) (w : World) :
    Calls Try.prog 19 #[.float .f64 a, .float .f64 b] w fun e w' => e = .returned (.bool true) ∧ ∃ n, w' = w.drewN n := by
  cases v with
  | none =>
    have h1 := order_nan ha.none
    have h2 := order_nan hb.none
    go_enter Try.func19, Try.ntmps19
    go_wp2
    go_ret
    exact ⟨rfl, 0, rfl⟩
  | some c =>
    have e1 := ha.some
    have e2 := hb.some
    subst e1
    subst e2
    have h1 := order_self ha.2.2
    have c1 : Rep .f64 (some 4607182418800017408) 4607182418800017408 := rep_lit _ _ (by decide +kernel)
    cases h2 : (FloatKind.f64.format.order b 0 == some .eq)
    · go_enter Try.func19, Try.ntmps19
      go_wp2
      go_ret
      exact ⟨rfl, 0, rfl⟩
    · go_enter Try.func19, Try.ntmps19
      go_wp2_with (refine wpList_ar rfl _ _ _ _ _ rfl rfl _ _ _ rfl rfl c1 ha ?_; intro r n hr)
      go_ret
      rename_i r1 n1 hr1
      exact ⟨ret_bool (by rw [order_alike hr1 hr]; simp), _, rfl⟩
end Go.Proofs.Ytpebdcimbdbbmaa
