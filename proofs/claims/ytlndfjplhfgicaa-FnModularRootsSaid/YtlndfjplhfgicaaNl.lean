/- Contracts: the draw for powers of x. -/
import Derived.Test.YtlndfjplhfgicaaNk
import Derived.Test.YtlndfjplhfgicaaNi
namespace Go.Proofs.Ytlndfjplhfgicaa
open Go.RowKit
set_option linter.unusedVariables false
set_option linter.unusedSimpArgs false

/-- Two numbers and a slice of its own come back. -/
def RetNumNumL (m : Int) (w : World) (e : Ending) (w' : World) : Prop := ∃ p n xs v, e = .returned (.tuple #[.int .i64 p, .int .i64 n, v]) ∧ (-m ≤ p ∧ p ≤ m) ∧ (-m ≤ n ∧ n ≤ m) ∧ Own w' w.heap.size v xs ∧ Below w.heap.size w w'
set_option maxHeartbeats 8000000 in
theorem DrawPowerOfX_any {bs : List Int} {v : Value} {w : World} (h : Bytes w w.heap.size v bs) :
    Calls Try.prog 61 #[v] w (RetNumNumL 1000000000001 w) := by
  have HBs := Lib.hid h
  clear h
  go_enter Try.func61, Try.ntmps61
  go_wp2_with (go_at_call 78; with_reducible refine (l01From_any HBs.out).mono ?_)
  rintro _ w1 ⟨b, rfl, hs1, hb1⟩
  have HS1 := Lib.hid hs1
  have HB1 := Lib.hid hb1
  have hlo := hs1.lo
  have hbw := hs1.lt
  have HBs1 := Lib.hid (HBs.out.next HB1.out HB1.out.size)
  clear hs1 hb1
  go_wp2_with (go_at_call 116; with_reducible refine (DrawIsModular_any HBs1.out).mono ?_)
  rintro _ w2 ⟨p, zs, v2, rfl, ⟨p0, p1⟩, o2, hb2⟩
  have HS2 := Lib.hid (HS1.out.step hb2)
  have HO2 := Lib.hid o2
  have HB2 := Lib.hid (HB1.out.trans (hb2.mono HB1.out.size))
  clear o2 hb2
  go_wp2_with (go_at_call 82; with_reducible refine (l01Next_any HS2.out 100 (by omega) (by omega)).mono ?_)
  rintro _ w3 ⟨x, rfl, x0, x1, hs3, hg3⟩
  have HS3 := Lib.hid hs3
  have HO3 := Lib.hid (HO2.out.kept_src hbw hg3)
  have HB3 := Lib.hid (below_grownB HB2.out hlo hg3)
  clear hs3 hg3 HO2
  go_wp2_with (go_at_call 82; with_reducible refine (l01Next_any HS3.out 1000000 (by omega) (by omega)).mono ?_)
  rintro _ w4 ⟨y, rfl, y0, y1, hs4, hg4⟩
  have HS4 := Lib.hid hs4
  have HO4 := Lib.hid (HO3.out.kept_src hbw hg4)
  have HB4 := Lib.hid (below_grownB HB3.out hlo hg4)
  have hb4 := hs4.lt
  clear hs4 hg4 HO3
  have hp := Lib.hid (l01Pick_any (n := 8) (g := w4.heap.size) (zs := [0, 1, p, x, y, 1000000000000, 1000000000001, -1]) (w := w4.alloc (.cells #[.int .i64 0, .int .i64 1, .int .i64 p, .int .i64 x, .int .i64 y, .int .i64 1000000000000, .int .i64 1000000000001, .int .i64 (-1)] 2)) (HS4.out.step (below_box _)) rfl (by decide) (by decide) (by simp) (by omega) (list_new (zs := [0, 1, p, x, y, 1000000000000, 1000000000001, -1])))
  go_wp2_with (go_at_call 83; (with_reducible refine hp.out.mono ?_))
  rintro e w6 ⟨i, hi, rfl, hs6, hg6⟩
  have HO6 := Lib.hid ((HO4.out.step (below_box _)).kept_src hbw hg6)
  have HB6 := Lib.hid (below_grownB HB4.out hlo (grownT (grown_alloc _) hg6))
  have hi' : i = 0 ∨ i = 1 ∨ i = 2 ∨ i = 3 ∨ i = 4 ∨ i = 5 ∨ i = 6 ∨ i = 7 := by omega
  obtain ⟨P, hP, hP0, hP1⟩ : ∃ P, el [0, 1, p, x, y, 1000000000000, 1000000000001, -1] i = P ∧ -1000000000001 ≤ P ∧ P ≤ 1000000000001 := by
    refine ⟨_, rfl, ?_, ?_⟩
    · rcases hi' with rfl | rfl | rfl | rfl | rfl | rfl | rfl | rfl <;> simp [el] <;> omega
    · rcases hi' with rfl | rfl | rfl | rfl | rfl | rfl | rfl | rfl <;> simp [el] <;> omega
  rw [hP]
  clear hs6 hg6 hi' hP hi
  go_wp2
  refine bodyPost_ret (v := .tuple #[.int .i64 p, .int .i64 P, v2]) (by simp [results, Try.results61, go_sem, ↓IntWalk.iteOmega]) rfl ?_
  exact ⟨p, P, zs, v2, rfl, ⟨p0, p1⟩, ⟨hP0, hP1⟩, HO6.out.mono HB1.out.size, HB6.out⟩

end Go.Proofs.Ytlndfjplhfgicaa
