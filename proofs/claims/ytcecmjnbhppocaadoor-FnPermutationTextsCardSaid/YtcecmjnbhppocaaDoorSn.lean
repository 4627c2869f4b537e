/- Contracts: the draws of the law on texts of permutations. -/
import Derived.Test.YtcecmjnbhppocaaDoorSm
import Derived.Test.YtcecmjnbhppocaaDoorSi
import Derived.Test.YtcecmjnbhppocaaDoorNp
namespace Go.Proofs.YtcecmjnbhppocaaDoor
open Go.RowKit
set_option linter.unusedVariables false
set_option linter.unusedSimpArgs false
set_option maxRecDepth 100000

theorem txtL_len {zs : List Int} (h : permB zs = true) : (txtL zs).length ≤ 100 := by
  obtain ⟨h1, h2⟩ := cyc_small h
  have h3 := bodN_len (fun i hi => (h2 i hi).1) (cycL zs).length (Nat.le_refl _)
  unfold txtL
  split
  · simp [dg]
  · simp [dg]; omega
theorem rdO_cases (l : List UInt8) : (∃ zs, permB zs = true ∧ txtL zs = l ∧ rdO l = (zs, 0)) ∨ rdO l = ([], 6) := by
  unfold rdO
  split
  · rename_i h
    simp only [Bool.and_eq_true, beq_iff_eq] at h
    exact .inl ⟨_, h.1.2, h.2, rfl⟩
  · exact .inr rfl
set_option maxHeartbeats 4000000 in
theorem DrawPermutationText_any {cs : List Int} {v : Value} {w : World} (h : Bytes w w.heap.size v cs) :
    Calls Tryd.prog 15 #[v] w fun e w' => ∃ zs v', e = .returned v' ∧ Own w' w.heap.size v' zs ∧ Below w.heap.size w w' := by
  have HBs := Lib.hid h
  clear h
  go_enter Tryd.func15, Tryd.ntmps15
  go_wp2_with (go_at_call 30; with_reducible refine (l01From_any HBs.out).mono ?_)
  rintro _ w1 ⟨b, rfl, hs1, hb1⟩
  have HS1 := Lib.hid hs1
  have HB1 := Lib.hid hb1
  have hlo := hs1.lo
  clear hs1 hb1
  go_wp2_with (go_at_call 29; with_reducible refine (l21Draw_any HS1.out).mono ?_)
  rintro _ w2 ⟨zs, v2, rfl, o2, hs2, hg2⟩
  go_wp2
  go_ret
  exact ⟨zs, v2, rfl, o2.mono HB1.out.size, below_grownB HB1.out hlo hg2⟩
set_option maxHeartbeats 4000000 in
theorem DrawReadPermutation_any {cs : List Int} {v : Value} {w : World} (h : Bytes w w.heap.size v cs) :
    Calls Tryd.prog 16 #[v] w fun e w' => ∃ l : List UInt8, e = .returned (.string (bs l)) ∧ l.length ≤ 1001 ∧ Below w.heap.size w w' := by
  have HBs := Lib.hid h
  clear h
  go_enter Tryd.func16, Tryd.ntmps16
  go_wp2_with (go_at_call 30; with_reducible refine (l01From_any HBs.out).mono ?_)
  rintro _ w1 ⟨b, rfl, hs1, hb1⟩
  have HS1 := Lib.hid hs1
  have HB1 := Lib.hid hb1
  have hlo := hs1.lo
  clear hs1 hb1
  go_wp2_with (go_at_call 31; with_reducible refine (l21Valid_any HS1.out).mono ?_)
  rintro _ w2 ⟨zs, hp, v2, rfl, o2, hs2, hg2⟩
  have HB2 := Lib.hid (below_grownB HB1.out hlo hg2)
  have HO2 := Lib.hid o2.reads
  have HS2 := Lib.hid hs2
  have htl := txtL_len hp
  have HT := Lib.hid (l21Text_any HO2.out hp)
  clear hg2 o2 hs2 HB1 HS1 hp HO2
  generalize txtL zs = T at *
  go_wp2_with (go_at_call 19; with_reducible refine HT.out.mono ?_)
  rintro _ w3 ⟨rfl, hb3⟩
  have HS3 := Lib.hid (HS2.out.step hb3)
  have HB3 := Lib.hid (HB2.out.trans (hb3.mono HB2.out.size))
  clear hb3 HS2 HB2 HT
  go_wp2_with (go_at_call 32; with_reducible refine (l01Next_any HS3.out 3 (by omega) (by omega)).mono ?_)
  rintro _ w4 ⟨r, rfl, r0, r1, hs4, hg4⟩
  have HS4 := Lib.hid hs4
  have HB4 := Lib.hid (below_grownB HB3.out hlo hg4)
  clear hs4 hg4 HS3 HB3
  by_cases hr : r = 0
  · subst hr
    have hT : T.length ≤ 1000 := by omega
    have HD := Lib.hid (l01Damage_any HS4.out hT)
    go_wp2_with (go_at_call 33; with_reducible refine HD.out.mono ?_)
    first | rintro _ w5 l' rfl hl' hs5 hg5 | rintro _ w5 ⟨l', rfl, hl', hs5, hg5⟩
    go_wp2
    go_ret
    exact ⟨l', rfl, hl', below_grownB HB4.out hlo hg5⟩
  · have hr0 : (r == 0) = false := by simpa using hr
    go_wp2
    go_ret
    exact ⟨T, rfl, by omega, HB4.out⟩

end Go.Proofs.YtcecmjnbhppocaaDoor
