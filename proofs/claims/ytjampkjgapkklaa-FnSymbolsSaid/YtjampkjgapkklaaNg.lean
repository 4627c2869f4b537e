/- Contracts: draws of the laws on symbols. -/
import Derived.Test.YtjampkjgapkklaaNf
namespace Go.Proofs.Ytjampkjgapkklaa
open Go.RowKit
set_option linter.unusedVariables false
set_option linter.unusedSimpArgs false

theorem below_grownB {w w1 w2 : World} {b : Nat} (h : Below w.heap.size w w1) (hb : w.heap.size ≤ b) (k : w1.grownBy w2 (some b)) : Below w.heap.size w w2 :=
  h.grown k h.size (fun i hi => by injection hi with e; omega)
/-- Two numbers within bounds come back. -/
def RetTwo (m : Int) (w : World) (e : Ending) (w' : World) : Prop := ∃ x y : Int, e = .returned (.tuple #[.int .i64 x, .int .i64 y]) ∧ (-m ≤ x ∧ x ≤ m) ∧ (-m ≤ y ∧ y ≤ m) ∧ Below w.heap.size w w'
theorem Src.lo {w : World} {lo b : Nat} {bs : List Int} (h : Src w lo b bs) : lo ≤ b := by obtain ⟨v, a, s, h⟩ := h; exact h.lb
set_option maxHeartbeats 1000000 in
theorem l16DrawTwo_any {bs : List Int} {v : Value} {w : World} (h : Bytes w w.heap.size v bs) :
    Calls Try.prog 83 #[v] w (RetTwo 1000000000001 w) := by
  have HBs := Lib.hid h
  clear h
  go_enter Try.func83, Try.ntmps83
  go_wp2_with (go_at_call 84; with_reducible refine (l01From_any HBs.out).mono ?_)
  rintro _ w1 ⟨b, rfl, hs1, hb1⟩
  have HS1 := Lib.hid hs1
  have HB1 := Lib.hid hb1
  have hlo := hs1.lo
  clear hs1 hb1
  go_wp2_with (go_at_call 86; with_reducible refine (l16DrawValue_any HS1.out).mono ?_)
  rintro _ w2 ⟨x, rfl, x0, x1, hs2, hg2⟩
  have HS2 := Lib.hid hs2
  have HB2 := Lib.hid (below_grownB HB1.out hlo hg2)
  clear hs2 hg2
  go_wp2_with (go_at_call 86; with_reducible refine (l16DrawValue_any HS2.out).mono ?_)
  rintro _ w3 ⟨y, rfl, y0, y1, hs3, hg3⟩
  have HB3 := Lib.hid (below_grownB HB2.out hlo hg3)
  clear hs3 hg3
  go_wp2
  go_ret2
  exact ⟨x, y, rfl, ⟨x0, x1⟩, ⟨y0, y1⟩, HB3.out⟩
set_option maxHeartbeats 1000000 in
theorem DrawSymbolTable_any {bs : List Int} {v : Value} {w : World} (h : Bytes w w.heap.size v bs) :
    Calls Try.prog 37 #[v] w (RetTwo 1000000000001 w) := by
  have HBs := Lib.hid h
  clear h
  go_enter Try.func37, Try.ntmps37
  go_wp2_with (go_at_call 83; with_reducible refine (l16DrawTwo_any HBs.out).mono ?_)
  rintro _ w1 ⟨x, y, rfl, hx, hy, hb1⟩
  have HB1 := Lib.hid hb1
  clear hb1
  go_wp2
  go_ret2
  exact ⟨x, y, rfl, hx, hy, HB1.out⟩

end Go.Proofs.Ytjampkjgapkklaa
