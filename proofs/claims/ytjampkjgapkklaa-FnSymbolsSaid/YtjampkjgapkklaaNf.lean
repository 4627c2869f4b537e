/- Contracts: draws of two values for the symbols. -/
import Derived.Test.YtjampkjgapkklaaNe
namespace Go.Proofs.Ytjampkjgapkklaa
open Go.RowKit
set_option linter.unusedVariables false
set_option linter.unusedSimpArgs false

set_option maxHeartbeats 4000000 in
theorem l16DrawValue_any {lo b : Nat} {bs : List Int} {w : World} (h : Src w lo b bs) :
    Calls Try.prog 86 #[.pointer (some ⟨b, 0, none⟩)] w (RetDraw 1000000000001 lo b bs w) := by
  have HS := Lib.hid h
  clear h
  go_enter Try.func86, Try.ntmps86
  go_wp2_with (go_at_call 112; with_reducible refine (l01Next_any HS.out 30 (by omega) (by omega)).mono ?_)
  rintro _ w1 ⟨n, rfl, n0, n1, hs1, hg1⟩
  have HS1 := Lib.hid hs1
  have HG1 := Lib.hid hg1
  clear hs1 hg1
  go_wp2_with (go_at_call 112; with_reducible refine (l01Next_any HS1.out 2 (by omega) (by omega)).mono ?_)
  rintro _ w2 ⟨r, rfl, r0, r1, hs2, hg2⟩
  have HS2 := Lib.hid hs2
  have HG2 := Lib.hid (grownT HG1.out hg2)
  clear hs2 hg2
  by_cases hr : r = 0
  · subst hr
    go_wp2_with (go_at_call 112; with_reducible refine (l01Next_any HS2.out 90 (by omega) (by omega)).mono ?_)
    rintro _ w3 ⟨m, rfl, m0, m1, hs3, hg3⟩
    have HS3 := Lib.hid hs3
    have HG3 := Lib.hid (grownT HG2.out hg3)
    clear hs3 hg3
    have M0 : 0 ≤ (1 + n) * (1 + m) := Int.mul_nonneg (by omega) (by omega)
    have M1 : (1 + n) * (1 + m) ≤ 30 * 90 := Int.mul_le_mul (by omega) (by omega) (by omega) (by omega)
    obtain ⟨M, hM⟩ : ∃ M, (1 + n) * (1 + m) = M := ⟨_, rfl⟩
    rw [hM] at M0 M1
    go_wp2_with (go_at_call 112; with_reducible refine (l01Next_any HS3.out 3 (by omega) (by omega)).mono ?_)
    rintro _ w4 ⟨q, rfl, q0, q1, hs4, hg4⟩
    have HS4 := Lib.hid hs4
    have HG4 := Lib.hid (grownT HG3.out hg4)
    clear hs4 hg4
    by_cases hq : q = 0
    · subst hq
      go_wp2_with (go_at_call 113; with_reducible refine (l01DrawValue_any HS4.out).mono ?_)
      rintro _ w5 ⟨z, rfl, z0, z1, hs5, hg5⟩
      have HS5 := Lib.hid hs5
      have HG5 := Lib.hid (grownT HG4.out hg5)
      have hb5 := hs5.lt
      clear hs5 hg5
      have hp := Lib.hid (l01Pick_any (n := 8) (g := w5.heap.size) (zs := [-M, -M, -M, -M, -M, -M, 0, z]) (w := w5.alloc (.cells #[.int .i64 (-M), .int .i64 (-M), .int .i64 (-M), .int .i64 (-M), .int .i64 (-M), .int .i64 (-M), .int .i64 (0), .int .i64 (z)] 2)) (HS5.out.step (below_box _)) rfl (by decide) (by decide) (by simp) (by omega) (list_new (zs := [-M, -M, -M, -M, -M, -M, 0, z])))
      go_wp2_with (go_at_call 87; (with_reducible refine hp.out.mono ?_))
      rintro e w6 ⟨i, hi, rfl, hs6, hg6⟩
      go_wp2
      go_ret
      have hi' : i = 0 ∨ i = 1 ∨ i = 2 ∨ i = 3 ∨ i = 4 ∨ i = 5 ∨ i = 6 ∨ i = 7 := by omega
      refine ⟨_, rfl, ?_, ?_, hs6, grownT HG5.out (grownT (grown_alloc _) hg6)⟩
      · rcases hi' with rfl | rfl | rfl | rfl | rfl | rfl | rfl | rfl <;> simp [el] <;> omega
      · rcases hi' with rfl | rfl | rfl | rfl | rfl | rfl | rfl | rfl <;> simp [el] <;> omega
    · have hq' : (q == 0) = false := by simpa using hq
      go_wp2_with (go_at_call 113; with_reducible refine (l01DrawValue_any HS4.out).mono ?_)
      rintro _ w5 ⟨z, rfl, z0, z1, hs5, hg5⟩
      have HS5 := Lib.hid hs5
      have HG5 := Lib.hid (grownT HG4.out hg5)
      have hb5 := hs5.lt
      clear hs5 hg5
      have hp := Lib.hid (l01Pick_any (n := 8) (g := w5.heap.size) (zs := [M, M, M, M, M, M, 0, z]) (w := w5.alloc (.cells #[.int .i64 (M), .int .i64 (M), .int .i64 (M), .int .i64 (M), .int .i64 (M), .int .i64 (M), .int .i64 (0), .int .i64 (z)] 2)) (HS5.out.step (below_box _)) rfl (by decide) (by decide) (by simp) (by omega) (list_new (zs := [M, M, M, M, M, M, 0, z])))
      go_wp2_with (go_at_call 87; (with_reducible refine hp.out.mono ?_))
      rintro e w6 ⟨i, hi, rfl, hs6, hg6⟩
      go_wp2
      go_ret
      have hi' : i = 0 ∨ i = 1 ∨ i = 2 ∨ i = 3 ∨ i = 4 ∨ i = 5 ∨ i = 6 ∨ i = 7 := by omega
      refine ⟨_, rfl, ?_, ?_, hs6, grownT HG5.out (grownT (grown_alloc _) hg6)⟩
      · rcases hi' with rfl | rfl | rfl | rfl | rfl | rfl | rfl | rfl <;> simp [el] <;> omega
      · rcases hi' with rfl | rfl | rfl | rfl | rfl | rfl | rfl | rfl <;> simp [el] <;> omega
  · have hr' : (r == 0) = false := by simpa using hr
    go_wp2_with (go_at_call 112; with_reducible refine (l01Next_any HS2.out 3 (by omega) (by omega)).mono ?_)
    rintro _ w4 ⟨q, rfl, q0, q1, hs4, hg4⟩
    have HS4 := Lib.hid hs4
    have HG4 := Lib.hid (grownT HG2.out hg4)
    clear hs4 hg4
    by_cases hq : q = 0
    · subst hq
      go_wp2_with (go_at_call 113; with_reducible refine (l01DrawValue_any HS4.out).mono ?_)
      rintro _ w5 ⟨z, rfl, z0, z1, hs5, hg5⟩
      have HS5 := Lib.hid hs5
      have HG5 := Lib.hid (grownT HG4.out hg5)
      have hb5 := hs5.lt
      clear hs5 hg5
      have hp := Lib.hid (l01Pick_any (n := 8) (g := w5.heap.size) (zs := [-(1 + n), -(1 + n), -(1 + n), -(1 + n), -(1 + n), -(1 + n), 0, z]) (w := w5.alloc (.cells #[.int .i64 (-(1 + n)), .int .i64 (-(1 + n)), .int .i64 (-(1 + n)), .int .i64 (-(1 + n)), .int .i64 (-(1 + n)), .int .i64 (-(1 + n)), .int .i64 (0), .int .i64 (z)] 2)) (HS5.out.step (below_box _)) rfl (by decide) (by decide) (by simp) (by omega) (list_new (zs := [-(1 + n), -(1 + n), -(1 + n), -(1 + n), -(1 + n), -(1 + n), 0, z])))
      go_wp2_with (go_at_call 87; (with_reducible refine hp.out.mono ?_))
      rintro e w6 ⟨i, hi, rfl, hs6, hg6⟩
      go_wp2
      go_ret
      have hi' : i = 0 ∨ i = 1 ∨ i = 2 ∨ i = 3 ∨ i = 4 ∨ i = 5 ∨ i = 6 ∨ i = 7 := by omega
      refine ⟨_, rfl, ?_, ?_, hs6, grownT HG5.out (grownT (grown_alloc _) hg6)⟩
      · rcases hi' with rfl | rfl | rfl | rfl | rfl | rfl | rfl | rfl <;> simp [el] <;> omega
      · rcases hi' with rfl | rfl | rfl | rfl | rfl | rfl | rfl | rfl <;> simp [el] <;> omega
    · have hq' : (q == 0) = false := by simpa using hq
      go_wp2_with (go_at_call 113; with_reducible refine (l01DrawValue_any HS4.out).mono ?_)
      rintro _ w5 ⟨z, rfl, z0, z1, hs5, hg5⟩
      have HS5 := Lib.hid hs5
      have HG5 := Lib.hid (grownT HG4.out hg5)
      have hb5 := hs5.lt
      clear hs5 hg5
      have hp := Lib.hid (l01Pick_any (n := 8) (g := w5.heap.size) (zs := [1 + n, 1 + n, 1 + n, 1 + n, 1 + n, 1 + n, 0, z]) (w := w5.alloc (.cells #[.int .i64 (1 + n), .int .i64 (1 + n), .int .i64 (1 + n), .int .i64 (1 + n), .int .i64 (1 + n), .int .i64 (1 + n), .int .i64 (0), .int .i64 (z)] 2)) (HS5.out.step (below_box _)) rfl (by decide) (by decide) (by simp) (by omega) (list_new (zs := [1 + n, 1 + n, 1 + n, 1 + n, 1 + n, 1 + n, 0, z])))
      go_wp2_with (go_at_call 87; (with_reducible refine hp.out.mono ?_))
      rintro e w6 ⟨i, hi, rfl, hs6, hg6⟩
      go_wp2
      go_ret
      have hi' : i = 0 ∨ i = 1 ∨ i = 2 ∨ i = 3 ∨ i = 4 ∨ i = 5 ∨ i = 6 ∨ i = 7 := by omega
      refine ⟨_, rfl, ?_, ?_, hs6, grownT HG5.out (grownT (grown_alloc _) hg6)⟩
      · rcases hi' with rfl | rfl | rfl | rfl | rfl | rfl | rfl | rfl <;> simp [el] <;> omega
      · rcases hi' with rfl | rfl | rfl | rfl | rfl | rfl | rfl | rfl <;> simp [el] <;> omega

end Go.Proofs.Ytjampkjgapkklaa
