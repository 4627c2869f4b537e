/- Contracts: more on p-adic numbers. -/
import Derived.Test.YtcecmjnbhppocaaDoorC
import Derived.Test.YtcecmjnbhppocaaDoorD
import Derived.Deep.RegionWith
import Derived.Deep.RegionHeld3
import Derived.Test.YtcecmjnbhppocaaDoorT
namespace Go.Proofs.YtcecmjnbhppocaaDoor
open Go.RowKit
set_option linter.unusedVariables false
set_option linter.unusedSimpArgs false

/-- A p-adic number as a value. -/
abbrev padV (p v u n : Int) : Value := .agg #[.int .i64 p, .int .i64 v, .int .i64 u, .int .i64 n]
theorem padic_bd {p v u n : Int} (h : padicB p v u n = true) : (2 ≤ p ∧ p ≤ 97) ∧ (-60 ≤ v ∧ v ≤ 60) ∧ (0 ≤ n ∧ n ≤ 29) ∧ (0 ≤ u ∧ u ≤ 1000000000) := by
  obtain ⟨h1, h2, h3⟩ := padic_iff.1 h
  refine ⟨small_bd h1, h2, ?_⟩
  rcases h3 with ⟨h3, h4⟩ | ⟨_, h4, h5, _⟩
  · omega
  · have := ring_bd h4; omega
/-- The code of a ring and a residue. -/
def resCode (p n a : Int) : Int := if ringB p n then (if inB a 0 (p ^ n.toNat - 1) then 0 else 2) else 1
end Go.Proofs.YtcecmjnbhppocaaDoor
