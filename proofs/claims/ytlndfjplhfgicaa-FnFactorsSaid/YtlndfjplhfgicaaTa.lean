/- Contract: slices.Sort at []int64, over a slice of the call's own. -/
import Derived.Test.YtlndfjplhfgicaaS
import Derived.Shelf.SlGeneric
import Derived.Ground.SlgnProg
import Derived.Shelf.SortG.Plain
import Derived.Shelf.SortG.SortNone
import Derived.Sort.OwnSortedInts
namespace Go.Proofs.Ytlndfjplhfgicaa
open Go.RowKit
set_option linter.unusedVariables false
set_option linter.unusedSimpArgs false

def Try.lsort_ren : Go.Shelf.Ren := ⟨fun | 53 => 144 | 64 => 187 | 63 => 186 | 78 => 207 | 79 => 208 | 70 => 198 | 71 => 199 | 72 => 200 | 73 => 201 | 74 => 202 | 75 => 203 | 59 => 204 | 76 => 205 | 77 => 206 | 88 => 216 | 89 => 217 | 90 => 218 | 91 => 219 | 92 => 220 | 68 => 221 | 96 => 222 | n => n, fun | 22 => 22 | 23 => 2 | 3 => 3 | 51 => 116 | 0 => 0 | 67 => 139 | 69 => 141 | 4 => 4 | 61 => 132 | 60 => 131 | 44 => 136 | 5 => 5 | 9 => 9 | 75 => 144 | 79 => 148 | 83 => 150 | 84 => 151 | n => n, fun | n => n⟩
theorem Try.lsort : Go.Proofs.SlLaysN.n53 Try.prog Try.lsort_ren := {
  mixed := by kernel_rfl
  f53 := ⟨Try.f144.name, by decide, Try.func144.trans (congrArg some (by kernel_rfl))⟩
  f59 := ⟨Try.f204.name, by decide, Try.func204.trans (congrArg some (by kernel_rfl))⟩
  f63 := ⟨Try.f186.name, by decide, Try.func186.trans (congrArg some (by kernel_rfl))⟩
  f64 := Try.func187.trans (congrArg some (by kernel_rfl))
  f68 := ⟨Try.f221.name, by decide, Try.func221.trans (congrArg some (by kernel_rfl))⟩
  f70 := ⟨Try.f198.name, by decide, Try.func198.trans (congrArg some (by kernel_rfl))⟩
  f71 := ⟨Try.f199.name, by decide, Try.func199.trans (congrArg some (by kernel_rfl))⟩
  f72 := ⟨Try.f200.name, by decide, Try.func200.trans (congrArg some (by kernel_rfl))⟩
  f73 := ⟨Try.f201.name, by decide, Try.func201.trans (congrArg some (by kernel_rfl))⟩
  f74 := ⟨Try.f202.name, by decide, Try.func202.trans (congrArg some (by kernel_rfl))⟩
  f75 := ⟨Try.f203.name, by decide, Try.func203.trans (congrArg some (by kernel_rfl))⟩
  f76 := ⟨Try.f205.name, by decide, Try.func205.trans (congrArg some (by kernel_rfl))⟩
  f77 := ⟨Try.f206.name, by decide, Try.func206.trans (congrArg some (by kernel_rfl))⟩
  f78 := Try.func207.trans (congrArg some (by kernel_rfl))
  f79 := Try.func208.trans (congrArg some (by kernel_rfl))
  f88 := ⟨Try.f216.name, by decide, Try.func216.trans (congrArg some (by kernel_rfl))⟩
  f89 := Try.func217.trans (congrArg some (by kernel_rfl))
  f90 := Try.func218.trans (congrArg some (by kernel_rfl))
  f91 := ⟨Try.f219.name, by decide, Try.func219.trans (congrArg some (by kernel_rfl))⟩
  f92 := ⟨Try.f220.name, by decide, Try.func220.trans (congrArg some (by kernel_rfl))⟩
  f96 := ⟨Try.f222.name, by decide, Try.func222.trans (congrArg some (by kernel_rfl))⟩
  t0 := Try.underlying0
  a0 := Try.isAgg0
  z0 := Try.sizeOf0
  v0 := Try.zeroValue0
  t3 := Try.underlying3
  a3 := Try.isAgg3
  z3 := Try.sizeOf3
  v3 := Try.zeroValue3
  t4 := Try.underlying4
  a4 := Try.isAgg4
  z4 := Try.sizeOf4
  v4 := Try.zeroValue4
  t5 := Try.underlying5
  a5 := Try.isAgg5
  z5 := Try.sizeOf5
  v5 := Try.zeroValue5
  t9 := Try.underlying9
  a9 := Try.isAgg9
  z9 := Try.sizeOf9
  v9 := Try.zeroValue9
  t22 := Try.underlying22
  a22 := Try.isAgg22
  z22 := Try.sizeOf22
  v22 := Try.zeroValue22
  t23 := Try.underlying2
  a23 := Try.isAgg2
  z23 := Try.sizeOf2
  v23 := Try.zeroValue2
  t44 := Try.underlying136
  a44 := Try.isAgg136
  z44 := Try.sizeOf136
  v44 := Try.zeroValue136
  t51 := Try.underlying116
  a51 := Try.isAgg116
  z51 := Try.sizeOf116
  v51 := Try.zeroValue116
  t60 := Try.underlying131
  a60 := Try.isAgg131
  z60 := Try.sizeOf131
  v60 := Try.zeroValue131
  t61 := Try.underlying132
  a61 := Try.isAgg132
  z61 := Try.sizeOf132
  v61 := Try.zeroValue132
  t67 := Try.underlying139
  a67 := Try.isAgg139
  z67 := Try.sizeOf139
  v67 := Try.zeroValue139
  t69 := Try.underlying141
  a69 := Try.isAgg141
  z69 := Try.sizeOf141
  v69 := Try.zeroValue141
  t75 := Try.underlying144
  a75 := Try.isAgg144
  z75 := Try.sizeOf144
  v75 := Try.zeroValue144
  t79 := Try.underlying148
  a79 := Try.isAgg148
  z79 := Try.sizeOf148
  v79 := Try.zeroValue148
  t83 := Try.underlying150
  a83 := Try.isAgg150
  z83 := Try.sizeOf150
  v83 := Try.zeroValue150
  t84 := Try.underlying151
  a84 := Try.isAgg151
  z84 := Try.sizeOf151
  v84 := Try.zeroValue151 }
def sortL (zs : List Int) : List Int := zs.mergeSort fun x y => decide (x ≤ y)
theorem sort_own {v : Value} {zs : List Int} {lo : Nat} {w : World} (h : Own w lo v zs) :
    Calls Try.prog 144 #[v] w fun e w' => e = .returned (.tuple #[]) ∧ Own w' lo v (sortL zs) ∧ w.grownBy w' v.ownBlock := by
  have hl : (sortL zs).length = zs.length := by simp [sortL]
  rcases h.2.2 with ⟨rfl, h2⟩ | ⟨g, cap, cur, rfl, hg, hh, hc, hm, hs, ht⟩
  · have hz : zs = [] := List.length_eq_zero_iff.1 h2
    subst hz
    have := AnyG.slices_Sort_int_none Try.lsort none 0 w
    refine this.mono ?_
    rintro e w' ⟨rfl, rfl⟩
    exact ⟨rfl, by simpa [sortL] using Own.nil, ⟨rfl, rfl, rfl, Nat.le_refl _, fun _ _ _ => rfl⟩⟩
  · have hb : g < w.heap.size := (Array.getElem?_eq_some_iff.1 hh).1
    have := AnyG.slices_Sort_int Try.lsort g 0 cap zs w (holds_of_blockI hh (by simpa using ht)) hb (by have := h.1; omega)
    refine this.mono ?_
    rintro e w' ⟨rfl, n, os, rfl⟩
    refine ⟨rfl, ⟨by rw [hl]; exact h.1, ?_⟩, grownBy_sortedI _⟩
    rw [hl]
    exact ownsRow_sortedI (by simp) hg hh hc hm hs

end Go.Proofs.Ytlndfjplhfgicaa
