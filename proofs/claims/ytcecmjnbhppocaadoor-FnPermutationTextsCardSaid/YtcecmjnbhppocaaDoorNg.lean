/- Contracts: draws of the laws on symbols. -/
import Derived.Test.YtcecmjnbhppocaaDoorNf
namespace Go.Proofs.YtcecmjnbhppocaaDoor
open Go.RowKit
set_option linter.unusedVariables false
set_option linter.unusedSimpArgs false

theorem below_grownB {w w1 w2 : World} {b : Nat} (h : Below w.heap.size w w1) (hb : w.heap.size ≤ b) (k : w1.grownBy w2 (some b)) : Below w.heap.size w w2 :=
  h.grown k h.size (fun i hi => by injection hi with e; omega)
/-- Two numbers within bounds come back. -/
def RetTwo (m : Int) (w : World) (e : Ending) (w' : World) : Prop := ∃ x y : Int, e = .returned (.tuple #[.int .i64 x, .int .i64 y]) ∧ (-m ≤ x ∧ x ≤ m) ∧ (-m ≤ y ∧ y ≤ m) ∧ Below w.heap.size w w'
theorem Src.lo {w : World} {lo b : Nat} {bs : List Int} (h : Src w lo b bs) : lo ≤ b := by obtain ⟨v, a, s, h⟩ := h; exact h.lb
end Go.Proofs.YtcecmjnbhppocaaDoor
