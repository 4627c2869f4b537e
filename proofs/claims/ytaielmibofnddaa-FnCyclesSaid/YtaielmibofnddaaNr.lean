/- Contracts: the draws of the law on cycles. -/
import Derived.Test.YtaielmibofnddaaNp
namespace Go.Proofs.Ytaielmibofnddaa
open Go.RowKit
set_option linter.unusedVariables false
set_option linter.unusedSimpArgs false

set_option maxHeartbeats 4000000 in
theorem DrawCyclesOf_any {bs : List Int} {v : Value} {w : World} (h : Bytes w w.heap.size v bs) :
    Calls Try.prog 5 #[v] w fun e w' => ∃ zs v', e = .returned v' ∧ Own w' w.heap.size v' zs ∧ Below w.heap.size w w' := by
  have HBs := Lib.hid h
  clear h
  go_enter Try.func5, Try.ntmps5
  go_wp2_with (go_at_call 22; with_reducible refine (l01From_any HBs.out).mono ?_)
  rintro _ w1 ⟨b, rfl, hs1, hb1⟩
  have HS1 := Lib.hid hs1
  have HB1 := Lib.hid hb1
  have hlo := hs1.lo
  clear hs1 hb1
  go_wp2_with (go_at_call 21; with_reducible refine (l21Draw_any HS1.out).mono ?_)
  rintro _ w2 ⟨zs, v2, rfl, o2, hs2, hg2⟩
  go_wp2
  go_ret
  exact ⟨zs, v2, rfl, o2.mono HB1.out.size, below_grownB HB1.out hlo hg2⟩
/-- A slice of its own and a number come back. -/
def RetLNum (m : Int) (w : World) (e : Ending) (w' : World) : Prop := ∃ xs n v, e = .returned (.tuple #[v, .int .i64 n]) ∧ (-m ≤ n ∧ n ≤ m) ∧ Own w' w.heap.size v xs ∧ Below w.heap.size w w'
set_option maxHeartbeats 4000000 in
theorem DrawPowerPermutation_any {bs : List Int} {v : Value} {w : World} (h : Bytes w w.heap.size v bs) :
    Calls Try.prog 14 #[v] w (RetLNum 2000 w) := by
  have HBs := Lib.hid h
  clear h
  go_enter Try.func14, Try.ntmps14
  go_wp2_with (go_at_call 22; with_reducible refine (l01From_any HBs.out).mono ?_)
  rintro _ w1 ⟨b, rfl, hs1, hb1⟩
  have HS1 := Lib.hid hs1
  have HB1 := Lib.hid hb1
  have hlo := hs1.lo
  have hbw := hs1.lt
  clear hs1 hb1
  go_wp2_with (go_at_call 21; with_reducible refine (l21Draw_any HS1.out).mono ?_)
  rintro _ w2 ⟨zs, v2, rfl, o2, hs2, hg2⟩
  have HS2 := Lib.hid hs2
  have HO2 := Lib.hid o2
  have HB2 := Lib.hid (below_grownB HB1.out hlo hg2)
  clear hs2 hg2 o2
  go_wp2_with (go_at_call 34; with_reducible refine (l01Next_any HS2.out 21 (by omega) (by omega)).mono ?_)
  rintro _ w3 ⟨x, rfl, x0, x1, hs3, hg3⟩
  have HS3 := Lib.hid hs3
  have HO3 := Lib.hid (HO2.out.keptB hbw hg3)
  have HB3 := Lib.hid (below_grownB HB2.out hlo hg3)
  have hb3 := hs3.lt
  clear hs3 hg3
  have hp := Lib.hid (l01Pick_any (n := 7) (g := w3.heap.size) (zs := [0, 1, -1, x - 10, 1000, 1001, -1001]) (w := w3.alloc (.cells #[.int .i64 0, .int .i64 1, .int .i64 (-1), .int .i64 (x - 10), .int .i64 1000, .int .i64 1001, .int .i64 (-1001)] 2)) (HS3.out.step (below_box _)) rfl (by decide) (by decide) (by simp) (by omega) (list_new (zs := [0, 1, -1, x - 10, 1000, 1001, -1001])))
  go_wp2_with (go_at_call 33; (with_reducible refine hp.out.mono ?_))
  rintro e w6 ⟨i, hi, rfl, hs6, hg6⟩
  have HO6 := Lib.hid ((HO3.out.step (below_box _)).keptB hbw hg6)
  have HB6 := Lib.hid (below_grownB HB3.out hlo (grownT (grown_alloc _) hg6))
  have hi' : i = 0 ∨ i = 1 ∨ i = 2 ∨ i = 3 ∨ i = 4 ∨ i = 5 ∨ i = 6 := by omega
  obtain ⟨P, hP, hP0, hP1⟩ : ∃ P, el [0, 1, -1, x - 10, 1000, 1001, -1001] i = P ∧ -2000 ≤ P ∧ P ≤ 2000 := by
    refine ⟨_, rfl, ?_, ?_⟩
    · rcases hi' with rfl | rfl | rfl | rfl | rfl | rfl | rfl <;> simp [el] <;> omega
    · rcases hi' with rfl | rfl | rfl | rfl | rfl | rfl | rfl <;> simp [el] <;> omega
  rw [hP]
  clear hs6 hg6 hi' hP hi
  go_wp2
  go_ret2
  exact ⟨zs, P, v2, rfl, ⟨hP0, hP1⟩, HO6.out.mono HB1.out.size, HB6.out⟩

end Go.Proofs.Ytaielmibofnddaa
