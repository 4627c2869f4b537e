/- Contracts: Legendre and Jacobi symbols. -/
import Derived.Test.YtlndfjplhfgicaaFa
import Derived.Test.YtlndfjplhfgicaaS
namespace Go.Proofs.Ytlndfjplhfgicaa
open Go.RowKit
set_option linter.unusedVariables false
set_option linter.unusedSimpArgs false

theorem isFactored_any (n : Int) (w : World) :
    Calls Try.prog 75 #[.int .i64 n] w fun e w' => e = .returned (.bool (inB n 1 1000000)) ∧ w = w' := by
  go_enter Try.func75, Try.ntmps75
  go_wp2_with (go_at_call 91; ((with_reducible refine (within_any _ _ _ _).mono ?_); rintro e w' ⟨rfl, rfl⟩))
  go_ret
  exact ⟨rfl, rfl⟩

theorem PowOwn.step {w w' : World} {base : Nat} {v : Value} {L : List (Int × Int)} (h : PowOwn w base v L) (hb : Below w.heap.size w w') : PowOwn w' base v L :=
  World.ownsRow.kept h (below_grown hb) (by cases v.ownBlock with | none => exact .inl rfl | some k => exact .inr (by simp))
theorem jac_step (a : Int) (L : List (Int × Int)) (i j : Nat) : -1 ≤ jacI a L i * leg a (pw L i).1 ^ j ∧ jacI a L i * leg a (pw L i).1 ^ j ≤ 1 := by
  have := tri_mul (jacI_tri a L i) (tri_pow (leg_tri a (pw L i).1) j)
  omega
theorem tri_bd {x y : Int} (hx : -1 ≤ x ∧ x ≤ 1) (hy : -1 ≤ y ∧ y ≤ 1) : -1 ≤ x * y ∧ x * y ≤ 1 := by
  have := tri_mul (x := x) (y := y) (by omega) (by omega)
  omega
theorem leg_bd (a p : Int) : -1 ≤ leg a p ∧ leg a p ≤ 1 := by have := leg_tri a p; omega

end Go.Proofs.Ytlndfjplhfgicaa
