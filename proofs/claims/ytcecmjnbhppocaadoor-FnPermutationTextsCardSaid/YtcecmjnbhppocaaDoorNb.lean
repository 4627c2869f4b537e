/- Contract: a pick among numbers. -/
import Derived.Test.YtcecmjnbhppocaaDoorNa
namespace Go.Proofs.YtcecmjnbhppocaaDoor
open Go.RowKit
set_option linter.unusedVariables false
set_option linter.unusedSimpArgs false

set_option maxHeartbeats 4000000 in
theorem l01Pick_any {lo b g n : Nat} {bs zs : List Int} {w : World} (h : Src w lo b bs) (hn : n = zs.length) (hp : 0 < n) (hl : n ≤ 1000) (hg : g < w.heap.size) (hne : g ≠ b) (hc : ∀ i, i < n → w.cell? ⟨g, i, none⟩ = some (.int .i64 (el zs i))) :
    Calls Tryd.prog 48 #[.pointer (some ⟨b, 0, none⟩), .slice (some ⟨g, 0, none⟩) n n] w fun e w' => ∃ i, i < n ∧ e = .returned (.int .i64 (el zs i)) ∧ Src w' lo b bs ∧ w.grownBy w' (some b) := by
  have HS := Lib.hid h
  have HC := Lib.hid hc
  clear h hc hn
  go_enter Tryd.func48, Tryd.ntmps48
  go_wp2_with (go_at_call 32; with_reducible refine (l01Next_any HS.out (n : Int) (by omega) (by omega)).mono ?_)
  rintro e w1 ⟨r, rfl, r0, r1, hs1, hg1⟩
  obtain ⟨i, rfl⟩ : ∃ i : Nat, r = i := ⟨r.toNat, by omega⟩
  have hi : i < n := by omega
  have HS1 := Lib.hid hs1
  have HG1 := Lib.hid hg1
  have cc : w1.cell? ⟨g, i, none⟩ = some (.int .i64 (el zs i)) := by
    rw [← HC.out i hi]
    simp only [World.cell?, hg1.block g hg (by simpa using hne)]
  clear hs1 hg1 r1
  go_wp2
  go_ret
  exact ⟨i, hi, rfl, HS1.out, HG1.out⟩

end Go.Proofs.YtcecmjnbhppocaaDoor
