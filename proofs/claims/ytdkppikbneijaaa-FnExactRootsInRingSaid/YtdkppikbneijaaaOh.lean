/- Contracts: polynomials in a ring. -/
import Derived.Test.YtdkppikbneijaaaOg
import Derived.Test.YtdkppikbneijaaaC
namespace Go.Proofs.Ytdkppikbneijaaa
open Go.RowKit
set_option linter.unusedVariables false
set_option linter.unusedSimpArgs false

/-- A polynomial in a ring. -/
def inrB (p n : Int) (f : List Int) : Bool := ringB p n && decide (f.length ≤ 9) && f.all (fun c => inB c 0 (p ^ n.toNat - 1)) && lastB f
theorem box_cells {w w1 : World} {x y : Value} {t : TypeId} (hb : Below (w.alloc (.cells #[x, y] t)).heap.size (w.alloc (.cells #[x, y] t)) w1) : w1.cell? ⟨w.heap.size, 0, none⟩ = some x ∧ w1.cell? ⟨w.heap.size, 1, none⟩ = some y := by
  constructor
  · rw [hb.cell (p := ⟨w.heap.size, 0, none⟩) (by simp)]; simp
  · rw [hb.cell (p := ⟨w.heap.size, 1, none⟩) (by simp)]; simp
def rtrL (p n : Int) (f : List Int) : List Int := if ringB p n then if polyB f then redL (p ^ n.toNat) f else [] else []
def rtrC (p n : Int) (f : List Int) : Int := if ringB p n then if polyB f then 0 else 1 else 1
end Go.Proofs.Ytdkppikbneijaaa
