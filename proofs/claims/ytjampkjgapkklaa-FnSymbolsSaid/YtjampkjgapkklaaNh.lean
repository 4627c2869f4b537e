/- Contracts: a prime is drawn; the draw for a Hilbert symbol. -/
import Derived.Test.YtjampkjgapkklaaNg
namespace Go.Proofs.Ytjampkjgapkklaa
open Go.RowKit
set_option linter.unusedVariables false
set_option linter.unusedSimpArgs false

set_option maxHeartbeats 4000000 in
theorem l01DrawPrime_any {lo b : Nat} {bs : List Int} {w : World} (h : Src w lo b bs) :
    Calls Try.prog 85 #[.pointer (some ⟨b, 0, none⟩)] w (RetDraw 1000000000001 lo b bs w) := by
  have HS := Lib.hid h
  clear h
  go_enter Try.func85, Try.ntmps85
  go_wp2_with (go_at_call 112; with_reducible refine (l01Next_any HS.out 24 (by omega) (by omega)).mono ?_)
  rintro _ w1 ⟨r, rfl, r0, r1, hs1, hg1⟩
  have HS1 := Lib.hid hs1
  have HG1 := Lib.hid hg1
  have hb1 := hs1.lt
  clear hs1 hg1
  by_cases hr : r = 0
  · subst hr
    have hp := Lib.hid (l01Pick_any (n := 7) (g := w1.heap.size) (zs := [1, 4, 0, 97, 101, -3, 9]) (w := w1.alloc (.cells #[.int .i64 1, .int .i64 4, .int .i64 0, .int .i64 97, .int .i64 101, .int .i64 (-3), .int .i64 9] 2)) (HS1.out.step (below_box _)) rfl (by decide) (by decide) (by simp) (by omega) (list_new (zs := [1, 4, 0, 97, 101, -3, 9])))
    go_wp2_with (go_at_call 87; (with_reducible refine hp.out.mono ?_))
    rintro e w6 ⟨i, hi, rfl, hs6, hg6⟩
    go_wp2
    go_ret
    have hi' : i = 0 ∨ i = 1 ∨ i = 2 ∨ i = 3 ∨ i = 4 ∨ i = 5 ∨ i = 6 := by omega
    refine ⟨_, rfl, ?_, ?_, hs6, grownT HG1.out (grownT (grown_alloc _) hg6)⟩
    · rcases hi' with rfl | rfl | rfl | rfl | rfl | rfl | rfl <;> decide
    · rcases hi' with rfl | rfl | rfl | rfl | rfl | rfl | rfl <;> decide
  · have hr' : (r == 0) = false := by simpa using hr
    have hp := Lib.hid (l01Pick_any (n := 11) (g := w1.heap.size) (zs := [2, 3, 5, 7, 2, 3, 5, 11, 13, 17, 31]) (w := w1.alloc (.cells #[.int .i64 2, .int .i64 3, .int .i64 5, .int .i64 7, .int .i64 2, .int .i64 3, .int .i64 5, .int .i64 11, .int .i64 13, .int .i64 17, .int .i64 31] 2)) (HS1.out.step (below_box _)) rfl (by decide) (by decide) (by simp) (by omega) (list_new (zs := [2, 3, 5, 7, 2, 3, 5, 11, 13, 17, 31])))
    go_wp2_with (go_at_call 87; (with_reducible refine hp.out.mono ?_))
    rintro e w6 ⟨i, hi, rfl, hs6, hg6⟩
    go_wp2
    go_ret
    have hi' : i = 0 ∨ i = 1 ∨ i = 2 ∨ i = 3 ∨ i = 4 ∨ i = 5 ∨ i = 6 ∨ i = 7 ∨ i = 8 ∨ i = 9 ∨ i = 10 := by omega
    refine ⟨_, rfl, ?_, ?_, hs6, grownT HG1.out (grownT (grown_alloc _) hg6)⟩
    · rcases hi' with rfl | rfl | rfl | rfl | rfl | rfl | rfl | rfl | rfl | rfl | rfl <;> decide
    · rcases hi' with rfl | rfl | rfl | rfl | rfl | rfl | rfl | rfl | rfl | rfl | rfl <;> decide
/-- Three numbers within bounds come back. -/
def RetThree (m : Int) (w : World) (e : Ending) (w' : World) : Prop := ∃ p x y : Int, e = .returned (.tuple #[.int .i64 p, .int .i64 x, .int .i64 y]) ∧ (-m ≤ p ∧ p ≤ m) ∧ (-m ≤ x ∧ x ≤ m) ∧ (-m ≤ y ∧ y ≤ m) ∧ Below w.heap.size w w'
set_option maxHeartbeats 4000000 in
theorem DrawHilbertSymbol_any {bs : List Int} {v : Value} {w : World} (h : Bytes w w.heap.size v bs) :
    Calls Try.prog 38 #[v] w (RetThree 1000000000001 w) := by
  have HBs := Lib.hid h
  clear h
  go_enter Try.func38, Try.ntmps38
  go_wp2_with (go_at_call 84; with_reducible refine (l01From_any HBs.out).mono ?_)
  rintro _ w1 ⟨b, rfl, hs1, hb1⟩
  have HS1 := Lib.hid hs1
  have HB1 := Lib.hid hb1
  have hlo := hs1.lo
  clear hs1 hb1
  go_wp2_with (go_at_call 85; with_reducible refine (l01DrawPrime_any HS1.out).mono ?_)
  rintro _ w2 ⟨p, rfl, p0, p1, hs2, hg2⟩
  have HS2 := Lib.hid hs2
  have HB2 := Lib.hid (below_grownB HB1.out hlo hg2)
  clear hs2 hg2
  go_wp2_with (go_at_call 86; with_reducible refine (l16DrawValue_any HS2.out).mono ?_)
  rintro _ w3 ⟨x, rfl, x0, x1, hs3, hg3⟩
  have HS3 := Lib.hid hs3
  have HB3 := Lib.hid (below_grownB HB2.out hlo hg3)
  have hb3 := hs3.lt
  clear hs3 hg3
  have hp := Lib.hid (l01Pick_any (n := 5) (g := w3.heap.size) (zs := [p, p, p, p, 0]) (w := w3.alloc (.cells #[.int .i64 p, .int .i64 p, .int .i64 p, .int .i64 p, .int .i64 0] 2)) (HS3.out.step (below_box _)) rfl (by decide) (by decide) (by simp) (by omega) (list_new (zs := [p, p, p, p, 0])))
  go_wp2_with (go_at_call 87; (with_reducible refine hp.out.mono ?_))
  rintro e w6 ⟨i, hi, rfl, hs6, hg6⟩
  have HS6 := Lib.hid hs6
  have HB6 := Lib.hid (below_grownB HB3.out hlo (grownT (grown_alloc _) hg6))
  have hi' : i = 0 ∨ i = 1 ∨ i = 2 ∨ i = 3 ∨ i = 4 := by omega
  obtain ⟨P, hP, hP0, hP1⟩ : ∃ P, el [p, p, p, p, 0] i = P ∧ -1000000000001 ≤ P ∧ P ≤ 1000000000001 := by
    refine ⟨_, rfl, ?_, ?_⟩
    · rcases hi' with rfl | rfl | rfl | rfl | rfl <;> simp [el] <;> omega
    · rcases hi' with rfl | rfl | rfl | rfl | rfl <;> simp [el] <;> omega
  rw [hP]
  clear hs6 hg6 hi' hP hi
  go_wp2_with (go_at_call 86; with_reducible refine (l16DrawValue_any HS6.out).mono ?_)
  rintro _ w7 ⟨y, rfl, y0, y1, hs7, hg7⟩
  have HB7 := Lib.hid (below_grownB HB6.out hlo hg7)
  clear hs7 hg7
  go_wp2
  refine bodyPost_ret (v := .tuple #[.int .i64 P, .int .i64 x, .int .i64 y]) (by simp [results, Try.results38, go_sem, ↓IntWalk.iteOmega]) rfl ?_
  exact ⟨P, x, y, rfl, ⟨hP0, hP1⟩, ⟨x0, x1⟩, ⟨y0, y1⟩, HB7.out⟩

end Go.Proofs.Ytjampkjgapkklaa
