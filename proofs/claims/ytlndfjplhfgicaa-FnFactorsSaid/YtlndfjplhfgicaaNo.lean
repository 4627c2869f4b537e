/- Contract: the draw for a valuation. -/
import Derived.Test.YtlndfjplhfgicaaNn
namespace Go.Proofs.Ytlndfjplhfgicaa
open Go.RowKit
set_option linter.unusedVariables false
set_option linter.unusedSimpArgs false

set_option maxHeartbeats 4000000 in
theorem l01DrawPrime_sm {lo b : Nat} {bs : List Int} {w : World} (h : Src w lo b bs) :
    Calls Try.prog 81 #[.pointer (some ⟨b, 0, none⟩)] w (RetDraw 101 lo b bs w) := by
  have HS := Lib.hid h
  clear h
  go_enter Try.func81, Try.ntmps81
  go_wp2_with (go_at_call 82; with_reducible refine (l01Next_any HS.out 24 (by omega) (by omega)).mono ?_)
  rintro _ w1 ⟨r, rfl, r0, r1, hs1, hg1⟩
  have HS1 := Lib.hid hs1
  have HG1 := Lib.hid hg1
  have hb1 := hs1.lt
  clear hs1 hg1
  by_cases hr : r = 0
  · subst hr
    have hp := Lib.hid (l01Pick_any (n := 7) (g := w1.heap.size) (zs := [1, 4, 0, 97, 101, -3, 9]) (w := w1.alloc (.cells #[.int .i64 1, .int .i64 4, .int .i64 0, .int .i64 97, .int .i64 101, .int .i64 (-3), .int .i64 9] 2)) (HS1.out.step (below_box _)) rfl (by decide) (by decide) (by simp) (by omega) (list_new (zs := [1, 4, 0, 97, 101, -3, 9])))
    go_wp2_with (go_at_call 83; (with_reducible refine hp.out.mono ?_))
    rintro e w6 ⟨i, hi, rfl, hs6, hg6⟩
    go_wp2
    go_ret
    have hi' : i = 0 ∨ i = 1 ∨ i = 2 ∨ i = 3 ∨ i = 4 ∨ i = 5 ∨ i = 6 := by omega
    refine ⟨_, rfl, ?_, ?_, hs6, grownT HG1.out (grownT (grown_alloc _) hg6)⟩
    · rcases hi' with rfl | rfl | rfl | rfl | rfl | rfl | rfl <;> decide
    · rcases hi' with rfl | rfl | rfl | rfl | rfl | rfl | rfl <;> decide
  · have hr' : (r == 0) = false := by simpa using hr
    have hp := Lib.hid (l01Pick_any (n := 11) (g := w1.heap.size) (zs := [2, 3, 5, 7, 2, 3, 5, 11, 13, 17, 31]) (w := w1.alloc (.cells #[.int .i64 2, .int .i64 3, .int .i64 5, .int .i64 7, .int .i64 2, .int .i64 3, .int .i64 5, .int .i64 11, .int .i64 13, .int .i64 17, .int .i64 31] 2)) (HS1.out.step (below_box _)) rfl (by decide) (by decide) (by simp) (by omega) (list_new (zs := [2, 3, 5, 7, 2, 3, 5, 11, 13, 17, 31])))
    go_wp2_with (go_at_call 83; (with_reducible refine hp.out.mono ?_))
    rintro e w6 ⟨i, hi, rfl, hs6, hg6⟩
    go_wp2
    go_ret
    have hi' : i = 0 ∨ i = 1 ∨ i = 2 ∨ i = 3 ∨ i = 4 ∨ i = 5 ∨ i = 6 ∨ i = 7 ∨ i = 8 ∨ i = 9 ∨ i = 10 := by omega
    refine ⟨_, rfl, ?_, ?_, hs6, grownT HG1.out (grownT (grown_alloc _) hg6)⟩
    · rcases hi' with rfl | rfl | rfl | rfl | rfl | rfl | rfl | rfl | rfl | rfl | rfl <;> decide
    · rcases hi' with rfl | rfl | rfl | rfl | rfl | rfl | rfl | rfl | rfl | rfl | rfl <;> decide

theorem num_step {N p : Int} {j : Nat} (h : N.natAbs ≤ 100 * 101 ^ j) (hp : -101 ≤ p ∧ p ≤ 101) : (N * p).natAbs ≤ 100 * 101 ^ (j + 1) := by
  rw [Int.natAbs_mul, Nat.pow_succ, ← Nat.mul_assoc]
  exact Nat.mul_le_mul h (by omega)
theorem num_bd {N : Int} {j : Nat} (h : N.natAbs ≤ 100 * 101 ^ j) (hj : j ≤ 4) : -10406040100 ≤ N ∧ N ≤ 10406040100 := by
  have : j = 0 ∨ j = 1 ∨ j = 2 ∨ j = 3 ∨ j = 4 := by omega
  rcases this with rfl | rfl | rfl | rfl | rfl <;> omega
set_option maxHeartbeats 4000000 in
theorem DrawValuationOf_any {bs : List Int} {v : Value} {w : World} (h : Bytes w w.heap.size v bs) :
    Calls Try.prog 23 #[v] w (RetTwo 1000000000001 w) := by
  have HBs := Lib.hid h
  clear h
  go_enter Try.func23, Try.ntmps23
  go_wp2_with (go_at_call 78; with_reducible refine (l01From_any HBs.out).mono ?_)
  rintro _ w1 ⟨b, rfl, hs1, hb1⟩
  have HS1 := Lib.hid hs1
  have HB1 := Lib.hid hb1
  have hlo := hs1.lo
  clear hs1 hb1
  go_wp2_with (go_at_call 81; with_reducible refine (l01DrawPrime_sm HS1.out).mono ?_)
  rintro _ w2 ⟨p, rfl, p0, p1, hs2, hg2⟩
  have HS2 := Lib.hid hs2
  have HB2 := Lib.hid (below_grownB HB1.out hlo hg2)
  clear hs2 hg2
  go_wp2_with (go_at_call 82; with_reducible refine (l01Next_any HS2.out 201 (by omega) (by omega)).mono ?_)
  rintro _ w3 ⟨x, rfl, x0, x1, hs3, hg3⟩
  have HS3 := Lib.hid hs3
  have HB3 := Lib.hid (below_grownB HB2.out hlo hg3)
  clear hs3 hg3
  go_wp2_with (go_at_call 82; with_reducible refine (l01Next_any HS3.out 5 (by omega) (by omega)).mono ?_)
  rintro _ w4 ⟨k0, rfl, k00, k01, hs4, hg4⟩
  have HS4 := Lib.hid hs4
  have HB4 := Lib.hid (below_grownB HB3.out hlo hg4)
  clear hs4 hg4
  go_wp2
  go_loop [6, 7] (fun n k => ∃ (N : Int) (K j : Nat), n = .int .i64 N ∧ k = .int .i64 (K : Int) ∧ j + K ≤ 4 ∧ Hid (N.natAbs ≤ 100 * 101 ^ j)) (fun _ k => (intOf k).toNat)
  case atStart => exact ⟨x - 100, k0.toNat, 0, rfl, by rw [Int.toNat_of_nonneg k00], by omega, Lib.hid (by simp; omega)⟩
  case round =>
    obtain ⟨N, K, j, rfl, rfl, hj, HN⟩ := hrel
    obtain ⟨n0, n1⟩ := num_bd HN.out (by omega)
    by_cases hlt : 0 < K
    · have HM := Lib.hid (num_step HN.out ⟨p0, p1⟩)
      obtain ⟨m0, m1⟩ := num_bd HM.out (by omega)
      go_wp2
      go_round
      case rel => exact ⟨N * p, K - 1, j + 1, rfl, by rw [show ((K - 1 : Nat) : Int) = (K : Int) - 1 by omega], by omega, HM⟩
      case measure => simp [intOf]; omega
    · obtain rfl : K = 0 := by omega
      go_wp2_with (go_at_call 84; with_reducible refine (l01DrawValue_any HS4.out).mono ?_)
      rintro _ w5 ⟨y, rfl, y0, y1, hs5, hg5⟩
      have HS5 := Lib.hid hs5
      have HB5 := Lib.hid (below_grownB HB4.out hlo hg5)
      have hb5 := hs5.lt
      clear hs5 hg5
      have hp := Lib.hid (l01Pick_any (n := 3) (g := w5.heap.size) (zs := [N, N, y]) (w := w5.alloc (.cells #[.int .i64 N, .int .i64 N, .int .i64 y] 2)) (HS5.out.step (below_box _)) rfl (by decide) (by decide) (by simp) (by omega) (list_new (zs := [N, N, y])))
      go_wp2_with (go_at_call 83; (with_reducible refine hp.out.mono ?_))
      rintro e w6 ⟨i, hi, rfl, hs6, hg6⟩
      have HB6 := Lib.hid (below_grownB HB5.out hlo (grownT (grown_alloc _) hg6))
      have hi' : i = 0 ∨ i = 1 ∨ i = 2 := by omega
      obtain ⟨P, hP, hP0, hP1⟩ : ∃ P, el [N, N, y] i = P ∧ -1000000000001 ≤ P ∧ P ≤ 1000000000001 := by
        refine ⟨_, rfl, ?_, ?_⟩
        · rcases hi' with rfl | rfl | rfl <;> simp [el] <;> omega
        · rcases hi' with rfl | rfl | rfl <;> simp [el] <;> omega
      rw [hP]
      clear hs6 hg6 hi' hP hi
      go_wp2
      go_ret2
      exact ⟨P, p, rfl, ⟨hP0, hP1⟩, ⟨by omega, by omega⟩, HB6.out⟩

end Go.Proofs.Ytlndfjplhfgicaa
