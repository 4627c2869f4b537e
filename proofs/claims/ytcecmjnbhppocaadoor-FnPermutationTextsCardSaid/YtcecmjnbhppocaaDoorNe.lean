/- Contracts: draws of values. -/
import Derived.Test.YtcecmjnbhppocaaDoorNd
namespace Go.Proofs.YtcecmjnbhppocaaDoor
open Go.RowKit
set_option linter.unusedVariables false
set_option linter.unusedSimpArgs false

theorem list_new {w1 : World} {zs : List Int} {t : TypeId} : ∀ i, i < zs.length → (w1.alloc (.cells ⟨zs.map (Value.int .i64)⟩ t)).cell? ⟨w1.heap.size, i, none⟩ = some (.int .i64 (el zs i)) := by
  intro i hi
  have := alloc_ite w1 ⟨zs.map (Value.int .i64)⟩ t w1.heap.size i
  rw [if_neg (by omega), if_pos rfl] at this
  rw [this]
  simp [el_get hi]
theorem grownT {w w1 w2 : World} {r : Option Nat} (h : w.grownBy w1 r) (k : w1.grownBy w2 r) : w.grownBy w2 r :=
  ⟨k.os.trans h.os, k.tape.trans h.tape, k.output.trans h.output, Nat.le_trans h.size k.size, fun i hi hr => (k.block i (Nat.lt_of_lt_of_le hi h.size) hr).trans (h.block i hi hr)⟩
theorem grown_alloc {w : World} {r : Option Nat} (o : Obj) : w.grownBy (w.alloc o) r := ⟨(below_box o).os, (below_box o).tape, (below_box o).output, (below_box o).size, fun k hk _ => (below_box o).block k hk⟩
/-- A number within bounds comes back. -/
def RetDraw (m : Int) (lo b : Nat) (bs : List Int) (w : World) (e : Ending) (w' : World) : Prop := ∃ r : Int, e = .returned (.int .i64 r) ∧ -m ≤ r ∧ r ≤ m ∧ Src w' lo b bs ∧ w.grownBy w' (some b)
theorem Src.lt {w : World} {lo b : Nat} {bs : List Int} (h : Src w lo b bs) : b < w.heap.size := by obtain ⟨v, a, s, h⟩ := h; exact h.lt

end Go.Proofs.YtcecmjnbhppocaaDoor
