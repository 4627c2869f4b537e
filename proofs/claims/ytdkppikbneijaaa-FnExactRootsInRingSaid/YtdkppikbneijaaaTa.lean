/- Contract: slices.Sort at []int64, over a slice of the call's own. -/
import Derived.Test.YtdkppikbneijaaaS
import Derived.Shelf.SlGeneric
import Derived.Ground.SlgnProg
import Derived.Shelf.SortG.Plain
import Derived.Shelf.SortG.SortNone
import Derived.Sort.OwnSortedInts
namespace Go.Proofs.Ytdkppikbneijaaa
open Go.RowKit
set_option linter.unusedVariables false
set_option linter.unusedSimpArgs false

def Try.lsort_ren : Go.Shelf.Ren := ⟨fun | 53 => 30 | 64 => 38 | 63 => 37 | 78 => 53 | 79 => 54 | 70 => 44 | 71 => 45 | 72 => 46 | 73 => 47 | 74 => 48 | 75 => 49 | 59 => 50 | 76 => 51 | 77 => 52 | 88 => 57 | 89 => 58 | 90 => 59 | 91 => 60 | 92 => 61 | 68 => 62 | 96 => 64 | n => n, fun | 22 => 24 | 23 => 2 | 3 => 3 | 51 => 54 | 0 => 0 | 67 => 68 | 69 => 70 | 4 => 4 | 61 => 60 | 60 => 59 | 44 => 65 | 5 => 5 | 9 => 9 | 75 => 72 | 79 => 76 | 83 => 79 | 84 => 80 | n => n, fun | n => n⟩
theorem Try.lsort : Go.Proofs.SlLaysN.n53 Try.prog Try.lsort_ren := {
  mixed := by kernel_rfl
  f53 := ⟨Try.f30.name, by decide, Try.func30.trans (congrArg some (by kernel_rfl))⟩
  f59 := ⟨Try.f50.name, by decide, Try.func50.trans (congrArg some (by kernel_rfl))⟩
  f63 := ⟨Try.f37.name, by decide, Try.func37.trans (congrArg some (by kernel_rfl))⟩
  f64 := Try.func38.trans (congrArg some (by kernel_rfl))
  f68 := ⟨Try.f62.name, by decide, Try.func62.trans (congrArg some (by kernel_rfl))⟩
  f70 := ⟨Try.f44.name, by decide, Try.func44.trans (congrArg some (by kernel_rfl))⟩
  f71 := ⟨Try.f45.name, by decide, Try.func45.trans (congrArg some (by kernel_rfl))⟩
  f72 := ⟨Try.f46.name, by decide, Try.func46.trans (congrArg some (by kernel_rfl))⟩
  f73 := ⟨Try.f47.name, by decide, Try.func47.trans (congrArg some (by kernel_rfl))⟩
  f74 := ⟨Try.f48.name, by decide, Try.func48.trans (congrArg some (by kernel_rfl))⟩
  f75 := ⟨Try.f49.name, by decide, Try.func49.trans (congrArg some (by kernel_rfl))⟩
  f76 := ⟨Try.f51.name, by decide, Try.func51.trans (congrArg some (by kernel_rfl))⟩
  f77 := ⟨Try.f52.name, by decide, Try.func52.trans (congrArg some (by kernel_rfl))⟩
  f78 := Try.func53.trans (congrArg some (by kernel_rfl))
  f79 := Try.func54.trans (congrArg some (by kernel_rfl))
  f88 := ⟨Try.f57.name, by decide, Try.func57.trans (congrArg some (by kernel_rfl))⟩
  f89 := Try.func58.trans (congrArg some (by kernel_rfl))
  f90 := Try.func59.trans (congrArg some (by kernel_rfl))
  f91 := ⟨Try.f60.name, by decide, Try.func60.trans (congrArg some (by kernel_rfl))⟩
  f92 := ⟨Try.f61.name, by decide, Try.func61.trans (congrArg some (by kernel_rfl))⟩
  f96 := ⟨Try.f64.name, by decide, Try.func64.trans (congrArg some (by kernel_rfl))⟩
  t0 := Try.underlying0
  a0 := Try.isAgg0
  z0 := Try.sizeOf0
  v0 := Try.zeroValue0
  t3 := Try.underlying3
  a3 := Try.isAgg3
  z3 := Try.sizeOf3
  v3 := Try.zeroValue3
  t4 := Try.underlying4
  a4 := Try.isAgg4
  z4 := Try.sizeOf4
  v4 := Try.zeroValue4
  t5 := Try.underlying5
  a5 := Try.isAgg5
  z5 := Try.sizeOf5
  v5 := Try.zeroValue5
  t9 := Try.underlying9
  a9 := Try.isAgg9
  z9 := Try.sizeOf9
  v9 := Try.zeroValue9
  t22 := Try.underlying24
  a22 := Try.isAgg24
  z22 := Try.sizeOf24
  v22 := Try.zeroValue24
  t23 := Try.underlying2
  a23 := Try.isAgg2
  z23 := Try.sizeOf2
  v23 := Try.zeroValue2
  t44 := Try.underlying65
  a44 := Try.isAgg65
  z44 := Try.sizeOf65
  v44 := Try.zeroValue65
  t51 := Try.underlying54
  a51 := Try.isAgg54
  z51 := Try.sizeOf54
  v51 := Try.zeroValue54
  t60 := Try.underlying59
  a60 := Try.isAgg59
  z60 := Try.sizeOf59
  v60 := Try.zeroValue59
  t61 := Try.underlying60
  a61 := Try.isAgg60
  z61 := Try.sizeOf60
  v61 := Try.zeroValue60
  t67 := Try.underlying68
  a67 := Try.isAgg68
  z67 := Try.sizeOf68
  v67 := Try.zeroValue68
  t69 := Try.underlying70
  a69 := Try.isAgg70
  z69 := Try.sizeOf70
  v69 := Try.zeroValue70
  t75 := Try.underlying72
  a75 := Try.isAgg72
  z75 := Try.sizeOf72
  v75 := Try.zeroValue72
  t79 := Try.underlying76
  a79 := Try.isAgg76
  z79 := Try.sizeOf76
  v79 := Try.zeroValue76
  t83 := Try.underlying79
  a83 := Try.isAgg79
  z83 := Try.sizeOf79
  v83 := Try.zeroValue79
  t84 := Try.underlying80
  a84 := Try.isAgg80
  z84 := Try.sizeOf80
  v84 := Try.zeroValue80 }
def sortL (zs : List Int) : List Int := zs.mergeSort fun x y => decide (x ≤ y)
theorem sort_own {v : Value} {zs : List Int} {lo : Nat} {w : World} (h : Own w lo v zs) :
    Calls Try.prog 30 #[v] w fun e w' => e = .returned (.tuple #[]) ∧ Own w' lo v (sortL zs) ∧ w.grownBy w' v.ownBlock := by
  have hl : (sortL zs).length = zs.length := by simp [sortL]
  rcases h.2.2 with ⟨rfl, h2⟩ | ⟨g, cap, cur, rfl, hg, hh, hc, hm, hs, ht⟩
  · have hz : zs = [] := List.length_eq_zero_iff.1 h2
    subst hz
    have := AnyG.slices_Sort_int_none Try.lsort none 0 w
    refine this.mono ?_
    rintro e w' ⟨rfl, rfl⟩
    exact ⟨rfl, by simpa [sortL] using Own.nil, ⟨rfl, rfl, rfl, Nat.le_refl _, fun _ _ _ => rfl⟩⟩
  · have hb : g < w.heap.size := (Array.getElem?_eq_some_iff.1 hh).1
    have := AnyG.slices_Sort_int Try.lsort g 0 cap zs w (holds_of_blockI hh (by simpa using ht)) hb (by have := h.1; omega)
    refine this.mono ?_
    rintro e w' ⟨rfl, n, os, rfl⟩
    refine ⟨rfl, ⟨by rw [hl]; exact h.1, ?_⟩, grownBy_sortedI _⟩
    rw [hl]
    exact ownsRow_sortedI (by simp) hg hh hc hm hs

end Go.Proofs.Ytdkppikbneijaaa
