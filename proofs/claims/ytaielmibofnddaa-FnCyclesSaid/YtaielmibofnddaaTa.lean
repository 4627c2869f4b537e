/- Contract: slices.Sort at []int64, over a slice of the call's own. -/
import Derived.Test.YtaielmibofnddaaS
import Derived.Shelf.SlGeneric
import Derived.Ground.SlgnProg
import Derived.Shelf.SortG.Plain
import Derived.Shelf.SortG.SortNone
import Derived.Sort.OwnSortedInts
namespace Go.Proofs.Ytaielmibofnddaa
open Go.RowKit
set_option linter.unusedVariables false
set_option linter.unusedSimpArgs false

def Try.lsort_ren : Go.Shelf.Ren := ⟨fun | 53 => 48 | 64 => 55 | 63 => 54 | 78 => 66 | 79 => 67 | 70 => 57 | 71 => 58 | 72 => 59 | 73 => 60 | 74 => 61 | 75 => 62 | 59 => 63 | 76 => 64 | 77 => 65 | 88 => 68 | 89 => 69 | 90 => 70 | 91 => 71 | 92 => 72 | 68 => 73 | 96 => 74 | n => n, fun | 22 => 24 | 23 => 2 | 3 => 3 | 51 => 60 | 0 => 0 | 67 => 71 | 69 => 73 | 4 => 4 | 61 => 63 | 60 => 62 | 44 => 68 | 5 => 5 | 9 => 9 | 75 => 74 | 79 => 78 | 83 => 81 | 84 => 82 | n => n, fun | n => n⟩
theorem Try.lsort : Go.Proofs.SlLaysN.n53 Try.prog Try.lsort_ren := {
  mixed := by kernel_rfl
  f53 := ⟨Try.f48.name, by decide, Try.func48.trans (congrArg some (by kernel_rfl))⟩
  f59 := ⟨Try.f63.name, by decide, Try.func63.trans (congrArg some (by kernel_rfl))⟩
  f63 := ⟨Try.f54.name, by decide, Try.func54.trans (congrArg some (by kernel_rfl))⟩
  f64 := Try.func55.trans (congrArg some (by kernel_rfl))
  f68 := ⟨Try.f73.name, by decide, Try.func73.trans (congrArg some (by kernel_rfl))⟩
  f70 := ⟨Try.f57.name, by decide, Try.func57.trans (congrArg some (by kernel_rfl))⟩
  f71 := ⟨Try.f58.name, by decide, Try.func58.trans (congrArg some (by kernel_rfl))⟩
  f72 := ⟨Try.f59.name, by decide, Try.func59.trans (congrArg some (by kernel_rfl))⟩
  f73 := ⟨Try.f60.name, by decide, Try.func60.trans (congrArg some (by kernel_rfl))⟩
  f74 := ⟨Try.f61.name, by decide, Try.func61.trans (congrArg some (by kernel_rfl))⟩
  f75 := ⟨Try.f62.name, by decide, Try.func62.trans (congrArg some (by kernel_rfl))⟩
  f76 := ⟨Try.f64.name, by decide, Try.func64.trans (congrArg some (by kernel_rfl))⟩
  f77 := ⟨Try.f65.name, by decide, Try.func65.trans (congrArg some (by kernel_rfl))⟩
  f78 := Try.func66.trans (congrArg some (by kernel_rfl))
  f79 := Try.func67.trans (congrArg some (by kernel_rfl))
  f88 := ⟨Try.f68.name, by decide, Try.func68.trans (congrArg some (by kernel_rfl))⟩
  f89 := Try.func69.trans (congrArg some (by kernel_rfl))
  f90 := Try.func70.trans (congrArg some (by kernel_rfl))
  f91 := ⟨Try.f71.name, by decide, Try.func71.trans (congrArg some (by kernel_rfl))⟩
  f92 := ⟨Try.f72.name, by decide, Try.func72.trans (congrArg some (by kernel_rfl))⟩
  f96 := ⟨Try.f74.name, by decide, Try.func74.trans (congrArg some (by kernel_rfl))⟩
  t0 := Try.underlying0
  a0 := Try.isAgg0
  z0 := Try.sizeOf0
  v0 := Try.zeroValue0
  t3 := Try.underlying3
  a3 := Try.isAgg3
  z3 := Try.sizeOf3
  v3 := Try.zeroValue3
  t4 := Try.underlying4
  a4 := Try.isAgg4
  z4 := Try.sizeOf4
  v4 := Try.zeroValue4
  t5 := Try.underlying5
  a5 := Try.isAgg5
  z5 := Try.sizeOf5
  v5 := Try.zeroValue5
  t9 := Try.underlying9
  a9 := Try.isAgg9
  z9 := Try.sizeOf9
  v9 := Try.zeroValue9
  t22 := Try.underlying24
  a22 := Try.isAgg24
  z22 := Try.sizeOf24
  v22 := Try.zeroValue24
  t23 := Try.underlying2
  a23 := Try.isAgg2
  z23 := Try.sizeOf2
  v23 := Try.zeroValue2
  t44 := Try.underlying68
  a44 := Try.isAgg68
  z44 := Try.sizeOf68
  v44 := Try.zeroValue68
  t51 := Try.underlying60
  a51 := Try.isAgg60
  z51 := Try.sizeOf60
  v51 := Try.zeroValue60
  t60 := Try.underlying62
  a60 := Try.isAgg62
  z60 := Try.sizeOf62
  v60 := Try.zeroValue62
  t61 := Try.underlying63
  a61 := Try.isAgg63
  z61 := Try.sizeOf63
  v61 := Try.zeroValue63
  t67 := Try.underlying71
  a67 := Try.isAgg71
  z67 := Try.sizeOf71
  v67 := Try.zeroValue71
  t69 := Try.underlying73
  a69 := Try.isAgg73
  z69 := Try.sizeOf73
  v69 := Try.zeroValue73
  t75 := Try.underlying74
  a75 := Try.isAgg74
  z75 := Try.sizeOf74
  v75 := Try.zeroValue74
  t79 := Try.underlying78
  a79 := Try.isAgg78
  z79 := Try.sizeOf78
  v79 := Try.zeroValue78
  t83 := Try.underlying81
  a83 := Try.isAgg81
  z83 := Try.sizeOf81
  v83 := Try.zeroValue81
  t84 := Try.underlying82
  a84 := Try.isAgg82
  z84 := Try.sizeOf82
  v84 := Try.zeroValue82 }
def sortL (zs : List Int) : List Int := zs.mergeSort fun x y => decide (x ≤ y)
theorem sort_own {v : Value} {zs : List Int} {lo : Nat} {w : World} (h : Own w lo v zs) :
    Calls Try.prog 48 #[v] w fun e w' => e = .returned (.tuple #[]) ∧ Own w' lo v (sortL zs) ∧ w.grownBy w' v.ownBlock := by
  have hl : (sortL zs).length = zs.length := by simp [sortL]
  rcases h.2.2 with ⟨rfl, h2⟩ | ⟨g, cap, cur, rfl, hg, hh, hc, hm, hs, ht⟩
  · have hz : zs = [] := List.length_eq_zero_iff.1 h2
    subst hz
    have := AnyG.slices_Sort_int_none Try.lsort none 0 w
    refine this.mono ?_
    rintro e w' ⟨rfl, rfl⟩
    exact ⟨rfl, by simpa [sortL] using Own.nil, ⟨rfl, rfl, rfl, Nat.le_refl _, fun _ _ _ => rfl⟩⟩
  · have hb : g < w.heap.size := (Array.getElem?_eq_some_iff.1 hh).1
    have := AnyG.slices_Sort_int Try.lsort g 0 cap zs w (holds_of_blockI hh (by simpa using ht)) hb (by have := h.1; omega)
    refine this.mono ?_
    rintro e w' ⟨rfl, n, os, rfl⟩
    refine ⟨rfl, ⟨by rw [hl]; exact h.1, ?_⟩, grownBy_sortedI _⟩
    rw [hl]
    exact ownsRow_sortedI (by simp) hg hh hc hm hs

end Go.Proofs.Ytaielmibofnddaa
