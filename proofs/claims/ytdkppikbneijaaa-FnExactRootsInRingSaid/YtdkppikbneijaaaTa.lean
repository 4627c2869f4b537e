/- Contract: slices.Sort at []int64, over a slice of the call's own. -/
import Derived.Test.YtdkppikbneijaaaS
import Derived.Shelf.SlGeneric
import Derived.Ground.SlgnProg
import Derived.Shelf.SortG.Plain
import Derived.Shelf.SortG.SortNone
import Derived.Sort.OwnSortedInts
namespace Go.Proofs.Ytdkppikbneijaaa
open Go.RowKit
set_option linter.unusedVariables false
set_option linter.unusedSimpArgs false

shelf_lay_g SlLaysN.n53 Slgn 53 at Try 30 as Try.lsort
def sortL (zs : List Int) : List Int := zs.mergeSort fun x y => decide (x ≤ y)
theorem sort_own {v : Value} {zs : List Int} {lo : Nat} {w : World} (h : Own w lo v zs) :
    Calls Try.prog 30 #[v] w fun e w' => e = .returned (.tuple #[]) ∧ Own w' lo v (sortL zs) ∧ w.grownBy w' v.ownBlock := by
  have hl : (sortL zs).length = zs.length := by simp [sortL]
  rcases h.2.2 with ⟨rfl, h2⟩ | ⟨g, cap, cur, rfl, hg, hh, hc, hm, hs, ht⟩
  · have hz : zs = [] := List.length_eq_zero_iff.1 h2
    subst hz
    have := AnyG.slices_Sort_int_none Try.lsort none 0 w
    refine this.mono ?_
    rintro e w' ⟨rfl, rfl⟩
    exact ⟨rfl, by simpa [sortL] using Own.nil, ⟨rfl, rfl, rfl, Nat.le_refl _, fun _ _ _ => rfl⟩⟩
  · have hb : g < w.heap.size := (Array.getElem?_eq_some_iff.1 hh).1
    have := AnyG.slices_Sort_int Try.lsort g 0 cap zs w (holds_of_blockI hh (by simpa using ht)) hb (by have := h.1; omega)
    refine this.mono ?_
    rintro e w' ⟨rfl, n, os, rfl⟩
    refine ⟨rfl, ⟨by rw [hl]; exact h.1, ?_⟩, grownBy_sortedI _⟩
    rw [hl]
    exact ownsRow_sortedI (by simp) hg hh hc hm hs

end Go.Proofs.Ytdkppikbneijaaa
