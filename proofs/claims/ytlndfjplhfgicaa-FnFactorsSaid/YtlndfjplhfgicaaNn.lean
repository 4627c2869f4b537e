/- Contracts: the draws of the law on factors. -/
import Derived.Test.YtlndfjplhfgicaaNh
namespace Go.Proofs.Ytlndfjplhfgicaa
open Go.RowKit
set_option linter.unusedVariables false
set_option linter.unusedSimpArgs false

set_option maxHeartbeats 4000000 in
theorem l01DrawNumber_any {lo b : Nat} {bs : List Int} {w : World} (h : Src w lo b bs) :
    Calls Try.prog 77 #[.pointer (some ⟨b, 0, none⟩)] w (RetDraw 1000000000001 lo b bs w) := by
  have HS := Lib.hid h
  clear h
  go_enter Try.func77, Try.ntmps77
  go_wp2_with (go_at_call 82; with_reducible refine (l01Next_any HS.out 300 (by omega) (by omega)).mono ?_)
  rintro _ w1 ⟨x, rfl, x0, x1, hs1, hg1⟩
  have HS1 := Lib.hid hs1
  have HG1 := Lib.hid hg1
  clear hs1 hg1
  go_wp2_with (go_at_call 82; with_reducible refine (l01Next_any HS1.out 1000000 (by omega) (by omega)).mono ?_)
  rintro _ w2 ⟨y, rfl, y0, y1, hs2, hg2⟩
  have HS2 := Lib.hid hs2
  have HG2 := Lib.hid (grownT HG1.out hg2)
  clear hs2 hg2
  go_wp2_with (go_at_call 82; with_reducible refine (l01Next_any HS2.out 900 (by omega) (by omega)).mono ?_)
  rintro _ w3 ⟨z, rfl, z0, z1, hs3, hg3⟩
  have HS3 := Lib.hid hs3
  have HG3 := Lib.hid (grownT HG2.out hg3)
  clear hs3 hg3
  go_wp2_with (go_at_call 82; with_reducible refine (l01Next_any HS3.out 5000 (by omega) (by omega)).mono ?_)
  rintro _ w4 ⟨t, rfl, t0, t1, hs4, hg4⟩
  have HS4 := Lib.hid hs4
  have HG4 := Lib.hid (grownT HG3.out hg4)
  have hb4 := hs4.lt
  clear hs4 hg4
  have hp := Lib.hid (l01Pick_any (n := 9) (g := w4.heap.size) (zs := [1 + x, 1 + y, 720720, 1, 1000000, 1000001, 0, 30 * (1 + z), 1 + t]) (w := w4.alloc (.cells #[.int .i64 (1 + x), .int .i64 (1 + y), .int .i64 720720, .int .i64 1, .int .i64 1000000, .int .i64 1000001, .int .i64 0, .int .i64 (30 * (1 + z)), .int .i64 (1 + t)] 2)) (HS4.out.step (below_box _)) rfl (by decide) (by decide) (by simp) (by omega) (list_new (zs := [1 + x, 1 + y, 720720, 1, 1000000, 1000001, 0, 30 * (1 + z), 1 + t])))
  go_wp2_with (go_at_call 83; (with_reducible refine hp.out.mono ?_))
  rintro e w6 ⟨i, hi, rfl, hs6, hg6⟩
  have hi' : i = 0 ∨ i = 1 ∨ i = 2 ∨ i = 3 ∨ i = 4 ∨ i = 5 ∨ i = 6 ∨ i = 7 ∨ i = 8 := by omega
  obtain ⟨P, hP, hP0, hP1⟩ : ∃ P, el [1 + x, 1 + y, 720720, 1, 1000000, 1000001, 0, 30 * (1 + z), 1 + t] i = P ∧ -1000000000001 ≤ P ∧ P ≤ 1000000000001 := by
    refine ⟨_, rfl, ?_, ?_⟩
    · rcases hi' with rfl | rfl | rfl | rfl | rfl | rfl | rfl | rfl | rfl <;> simp [el] <;> omega
    · rcases hi' with rfl | rfl | rfl | rfl | rfl | rfl | rfl | rfl | rfl <;> simp [el] <;> omega
  rw [hP]
  go_wp2
  go_ret
  exact ⟨P, rfl, hP0, hP1, hs6, grownT HG4.out (grownT (grown_alloc _) hg6)⟩
/-- A number within bounds comes back. -/
def RetNum (m : Int) (w : World) (e : Ending) (w' : World) : Prop := ∃ p : Int, e = .returned (.int .i64 p) ∧ (-m ≤ p ∧ p ≤ m) ∧ Below w.heap.size w w'
set_option maxHeartbeats 1000000 in
theorem DrawFactorOf_any {bs : List Int} {v : Value} {w : World} (h : Bytes w w.heap.size v bs) :
    Calls Try.prog 19 #[v] w (RetNum 1000000000001 w) := by
  have HBs := Lib.hid h
  clear h
  go_enter Try.func19, Try.ntmps19
  go_wp2_with (go_at_call 78; with_reducible refine (l01From_any HBs.out).mono ?_)
  rintro _ w1 ⟨b, rfl, hs1, hb1⟩
  have HS1 := Lib.hid hs1
  have HB1 := Lib.hid hb1
  have hlo := hs1.lo
  clear hs1 hb1
  go_wp2_with (go_at_call 77; with_reducible refine (l01DrawNumber_any HS1.out).mono ?_)
  rintro _ w2 ⟨p, rfl, p0, p1, hs2, hg2⟩
  go_wp2
  go_ret
  exact ⟨p, rfl, ⟨p0, p1⟩, below_grownB HB1.out hlo hg2⟩
set_option maxHeartbeats 1000000 in
theorem DrawDivisorsOf_any {bs : List Int} {v : Value} {w : World} (h : Bytes w w.heap.size v bs) :
    Calls Try.prog 22 #[v] w (RetNum 1000000000001 w) := by
  have HBs := Lib.hid h
  clear h
  go_enter Try.func22, Try.ntmps22
  go_wp2_with (go_at_call 78; with_reducible refine (l01From_any HBs.out).mono ?_)
  rintro _ w1 ⟨b, rfl, hs1, hb1⟩
  have HS1 := Lib.hid hs1
  have HB1 := Lib.hid hb1
  have hlo := hs1.lo
  clear hs1 hb1
  go_wp2_with (go_at_call 77; with_reducible refine (l01DrawNumber_any HS1.out).mono ?_)
  rintro _ w2 ⟨p, rfl, p0, p1, hs2, hg2⟩
  go_wp2
  go_ret
  exact ⟨p, rfl, ⟨p0, p1⟩, below_grownB HB1.out hlo hg2⟩

end Go.Proofs.Ytlndfjplhfgicaa
