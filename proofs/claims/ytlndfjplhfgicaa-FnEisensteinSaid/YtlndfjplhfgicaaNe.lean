/- Contracts: draws of values. -/
import Derived.Test.YtlndfjplhfgicaaNd
namespace Go.Proofs.Ytlndfjplhfgicaa
open Go.RowKit
set_option linter.unusedVariables false
set_option linter.unusedSimpArgs false

theorem list_new {w1 : World} {zs : List Int} {t : TypeId} : ∀ i, i < zs.length → (w1.alloc (.cells ⟨zs.map (Value.int .i64)⟩ t)).cell? ⟨w1.heap.size, i, none⟩ = some (.int .i64 (el zs i)) := by
  intro i hi
  have := alloc_ite w1 ⟨zs.map (Value.int .i64)⟩ t w1.heap.size i
  rw [if_neg (by omega), if_pos rfl] at this
  rw [this]
  simp [el_get hi]
theorem grownT {w w1 w2 : World} {r : Option Nat} (h : w.grownBy w1 r) (k : w1.grownBy w2 r) : w.grownBy w2 r :=
  ⟨k.os.trans h.os, k.tape.trans h.tape, k.output.trans h.output, Nat.le_trans h.size k.size, fun i hi hr => (k.block i (Nat.lt_of_lt_of_le hi h.size) hr).trans (h.block i hi hr)⟩
theorem grown_alloc {w : World} {r : Option Nat} (o : Obj) : w.grownBy (w.alloc o) r := ⟨(below_box o).os, (below_box o).tape, (below_box o).output, (below_box o).size, fun k hk _ => (below_box o).block k hk⟩
/-- A number within bounds comes back. -/
def RetDraw (m : Int) (lo b : Nat) (bs : List Int) (w : World) (e : Ending) (w' : World) : Prop := ∃ r : Int, e = .returned (.int .i64 r) ∧ -m ≤ r ∧ r ≤ m ∧ Src w' lo b bs ∧ w.grownBy w' (some b)
theorem Src.lt {w : World} {lo b : Nat} {bs : List Int} (h : Src w lo b bs) : b < w.heap.size := by obtain ⟨v, a, s, h⟩ := h; exact h.lt

set_option maxHeartbeats 4000000 in
theorem l01DrawValue_any {lo b : Nat} {bs : List Int} {w : World} (h : Src w lo b bs) :
    Calls Try.prog 84 #[.pointer (some ⟨b, 0, none⟩)] w (RetDraw 1000000000001 lo b bs w) := by
  have HS := Lib.hid h
  clear h
  go_enter Try.func84, Try.ntmps84
  go_wp2_with (go_at_call 82; with_reducible refine (l01Next_any HS.out 10 (by omega) (by omega)).mono ?_)
  rintro _ w1 ⟨r, rfl, r0, r1, hs1, hg1⟩
  have HS1 := Lib.hid hs1
  have HG1 := Lib.hid hg1
  have hb1 := hs1.lt
  clear hs1 hg1
  by_cases hr : r = 0
  · subst hr
    have hp := Lib.hid (l01Pick_any (n := 6) (g := w1.heap.size) (zs := [0, 1000000000000, 1000000000001, -1000000000000, -1000000000001, 1]) (w := w1.alloc (.cells #[.int .i64 0, .int .i64 1000000000000, .int .i64 1000000000001, .int .i64 (-1000000000000), .int .i64 (-1000000000001), .int .i64 1] 2)) (HS1.out.step (below_box _)) rfl (by decide) (by decide) (by simp) (by omega) (list_new (zs := [0, 1000000000000, 1000000000001, -1000000000000, -1000000000001, 1])))
    go_wp2_with (go_at_call 83; (with_reducible refine hp.out.mono ?_))
    rintro e w2 ⟨i, hi, rfl, hs2, hg2⟩
    go_wp2
    go_ret
    have hi' : i = 0 ∨ i = 1 ∨ i = 2 ∨ i = 3 ∨ i = 4 ∨ i = 5 := by omega
    refine ⟨_, rfl, ?_, ?_, hs2, grownT HG1.out (grownT (grown_alloc _) hg2)⟩
    · rcases hi' with rfl | rfl | rfl | rfl | rfl | rfl <;> decide
    · rcases hi' with rfl | rfl | rfl | rfl | rfl | rfl <;> decide
  · have hr' : (r == 0) = false := by simpa using hr
    go_wp2_with (go_at_call 82; with_reducible refine (l01Next_any HS1.out 41 (by omega) (by omega)).mono ?_)
    rintro _ w2 ⟨x, rfl, x0, x1, hs2, hg2⟩
    have HS2 := Lib.hid hs2
    have HG2 := Lib.hid hg2
    clear hs2 hg2
    go_wp2_with (go_at_call 82; with_reducible refine (l01Next_any HS2.out 2001 (by omega) (by omega)).mono ?_)
    rintro _ w3 ⟨y, rfl, y0, y1, hs3, hg3⟩
    have HS3 := Lib.hid hs3
    have HG3 := Lib.hid hg3
    clear hs3 hg3
    go_wp2_with (go_at_call 82; with_reducible refine (l01Next_any HS3.out 2000000001 (by omega) (by omega)).mono ?_)
    rintro _ w4 ⟨z, rfl, z0, z1, hs4, hg4⟩
    have HS4 := Lib.hid hs4
    have HG4 := Lib.hid hg4
    have hb4 := hs4.lt
    clear hs4 hg4
    have hp := Lib.hid (l01Pick_any (n := 3) (g := w4.heap.size) (zs := [x - 20, y - 1000, z - 1000000000]) (w := w4.alloc (.cells #[.int .i64 (x - 20), .int .i64 (y - 1000), .int .i64 (z - 1000000000)] 2)) (HS4.out.step (below_box _)) rfl (by decide) (by decide) (by simp) (by omega) (list_new (zs := [x - 20, y - 1000, z - 1000000000])))
    go_wp2_with (go_at_call 83; (with_reducible refine hp.out.mono ?_))
    rintro e w5 ⟨i, hi, rfl, hs5, hg5⟩
    go_wp2
    go_ret
    have hi' : i = 0 ∨ i = 1 ∨ i = 2 := by omega
    refine ⟨_, rfl, ?_, ?_, hs5, grownT HG1.out (grownT HG2.out (grownT HG3.out (grownT HG4.out (grownT (grown_alloc _) hg5))))⟩
    · rcases hi' with rfl | rfl | rfl <;> simp [el] <;> omega
    · rcases hi' with rfl | rfl | rfl <;> simp [el] <;> omega

end Go.Proofs.Ytlndfjplhfgicaa
