/- Contracts: a prime is drawn; the draw for a Hilbert symbol. -/
import Derived.Test.YtlndfjplhfgicaaNg
namespace Go.Proofs.Ytlndfjplhfgicaa
open Go.RowKit
set_option linter.unusedVariables false
set_option linter.unusedSimpArgs false

set_option maxHeartbeats 4000000 in
theorem l01DrawPrime_any {lo b : Nat} {bs : List Int} {w : World} (h : Src w lo b bs) :
    Calls Try.prog 81 #[.pointer (some ⟨b, 0, none⟩)] w (RetDraw 1000000000001 lo b bs w) := by
  have HS := Lib.hid h
  clear h
  go_enter Try.func81, Try.ntmps81
  go_wp2_with (go_at_call 82; with_reducible refine (l01Next_any HS.out 24 (by omega) (by omega)).mono ?_)
  rintro _ w1 ⟨r, rfl, r0, r1, hs1, hg1⟩
  have HS1 := Lib.hid hs1
  have HG1 := Lib.hid hg1
  have hb1 := hs1.lt
  clear hs1 hg1
  by_cases hr : r = 0
  · subst hr
    have hp := Lib.hid (l01Pick_any (n := 7) (g := w1.heap.size) (zs := [1, 4, 0, 97, 101, -3, 9]) (w := w1.alloc (.cells #[.int .i64 1, .int .i64 4, .int .i64 0, .int .i64 97, .int .i64 101, .int .i64 (-3), .int .i64 9] 2)) (HS1.out.step (below_box _)) rfl (by decide) (by decide) (by simp) (by omega) (list_new (zs := [1, 4, 0, 97, 101, -3, 9])))
    go_wp2_with (go_at_call 83; (with_reducible refine hp.out.mono ?_))
    rintro e w6 ⟨i, hi, rfl, hs6, hg6⟩
    go_wp2
    go_ret
    have hi' : i = 0 ∨ i = 1 ∨ i = 2 ∨ i = 3 ∨ i = 4 ∨ i = 5 ∨ i = 6 := by omega
    refine ⟨_, rfl, ?_, ?_, hs6, grownT HG1.out (grownT (grown_alloc _) hg6)⟩
    · rcases hi' with rfl | rfl | rfl | rfl | rfl | rfl | rfl <;> decide
    · rcases hi' with rfl | rfl | rfl | rfl | rfl | rfl | rfl <;> decide
  · have hr' : (r == 0) = false := by simpa using hr
    have hp := Lib.hid (l01Pick_any (n := 11) (g := w1.heap.size) (zs := [2, 3, 5, 7, 2, 3, 5, 11, 13, 17, 31]) (w := w1.alloc (.cells #[.int .i64 2, .int .i64 3, .int .i64 5, .int .i64 7, .int .i64 2, .int .i64 3, .int .i64 5, .int .i64 11, .int .i64 13, .int .i64 17, .int .i64 31] 2)) (HS1.out.step (below_box _)) rfl (by decide) (by decide) (by simp) (by omega) (list_new (zs := [2, 3, 5, 7, 2, 3, 5, 11, 13, 17, 31])))
    go_wp2_with (go_at_call 83; (with_reducible refine hp.out.mono ?_))
    rintro e w6 ⟨i, hi, rfl, hs6, hg6⟩
    go_wp2
    go_ret
    have hi' : i = 0 ∨ i = 1 ∨ i = 2 ∨ i = 3 ∨ i = 4 ∨ i = 5 ∨ i = 6 ∨ i = 7 ∨ i = 8 ∨ i = 9 ∨ i = 10 := by omega
    refine ⟨_, rfl, ?_, ?_, hs6, grownT HG1.out (grownT (grown_alloc _) hg6)⟩
    · rcases hi' with rfl | rfl | rfl | rfl | rfl | rfl | rfl | rfl | rfl | rfl | rfl <;> decide
    · rcases hi' with rfl | rfl | rfl | rfl | rfl | rfl | rfl | rfl | rfl | rfl | rfl <;> decide
/-- Three numbers within bounds come back. -/
def RetThree (m : Int) (w : World) (e : Ending) (w' : World) : Prop := ∃ p x y : Int, e = .returned (.tuple #[.int .i64 p, .int .i64 x, .int .i64 y]) ∧ (-m ≤ p ∧ p ≤ m) ∧ (-m ≤ x ∧ x ≤ m) ∧ (-m ≤ y ∧ y ≤ m) ∧ Below w.heap.size w w'
end Go.Proofs.Ytlndfjplhfgicaa
