/- What bytes a law's argument reads. -/
import Derived.Test.YtcecmjnbhppocaaDoorNc
namespace Go.Proofs.YtcecmjnbhppocaaDoor
open Go.RowKit
set_option linter.unusedVariables false
set_option linter.unusedSimpArgs false

theorem IsRow.bytes {w : World} {a : Option Addr} {len cap : Nat} {zs : List Int} (h : IsRow .u8 w a len cap zs) (hl : len ≤ 1048576) :
    ∃ Z : List Int, len = Z.length ∧ Bytes w w.heap.size (.slice a Z.length cap) Z := by
  rcases h with ⟨rfl, rfl, rfl, rfl⟩ | ⟨x, rfl, hlc, hm, hz, hcell, hwf⟩
  · exact ⟨[], rfl, fun i hi => by simp at hi, by simp, none, 0, rfl, by simp, by simp, fun hp => by simp at hp⟩
  · have h1 : (zs.take len).length = len := by rw [List.length_take]; omega
    refine ⟨zs.take len, h1.symm, fun i hi => ?_, by omega, some x, cap, by rw [h1], by omega, hm, fun hp => ?_⟩
    · have hg := el_get (zs := zs.take len) hi
      have := hwf _ (List.mem_of_mem_take (List.mem_of_getElem? hg))
      revert this
      generalize el (zs.take len) i = y
      intro this
      first
        | (have := bounds_u8 this; omega)
        | (simp [IntKind.lo, IntKind.hi] at this; omega)
        | (simp at this; omega)
        | (simp [Value.wf, IntKind.fits] at this; omega)
    · obtain ⟨b, off, spot⟩ := x
      have hc := hcell 0 (by omega)
      have hspot : spot = none := by simpa [Addr.add] using World.cell?_spot hc
      subst hspot
      refine ⟨b, off, rfl, ?_, fun i hi => ?_⟩
      · apply Decidable.byContradiction
        intro hb
        have : w.heap[b]? = none := Array.getElem?_eq_none (by omega)
        simp [World.cell?, Addr.add, this] at hc
      · have h2 := hcell i (by omega)
        rw [el_take (by omega), el]
        by_cases h0 : i = 0
        · subst h0; simpa [Addr.add] using h2
        · simpa [Addr.add, h0] using h2

end Go.Proofs.YtcecmjnbhppocaaDoor
