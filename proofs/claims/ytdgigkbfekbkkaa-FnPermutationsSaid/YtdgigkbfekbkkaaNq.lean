/- Contracts: the draws of the law on permutations. -/
import Derived.Test.YtdgigkbfekbkkaaNp
namespace Go.Proofs.Ytdgigkbfekbkkaa
open Go.RowKit
set_option linter.unusedVariables false
set_option linter.unusedSimpArgs false

set_option maxHeartbeats 4000000 in
theorem DrawInversePermutation_any {bs : List Int} {v : Value} {w : World} (h : Bytes w w.heap.size v bs) :
    Calls Try.prog 38 #[v] w fun e w' => ∃ zs v', e = .returned v' ∧ Own w' w.heap.size v' zs ∧ Below w.heap.size w w' := by
  have HBs := Lib.hid h
  clear h
  go_enter Try.func38, Try.ntmps38
  go_wp2_with (go_at_call 62; with_reducible refine (l01From_any HBs.out).mono ?_)
  rintro _ w1 ⟨b, rfl, hs1, hb1⟩
  have HS1 := Lib.hid hs1
  have HB1 := Lib.hid hb1
  have hlo := hs1.lo
  clear hs1 hb1
  go_wp2_with (go_at_call 63; with_reducible refine (l21Draw_any HS1.out).mono ?_)
  rintro _ w2 ⟨zs, v2, rfl, o2, hs2, hg2⟩
  go_wp2
  go_ret
  exact ⟨zs, v2, rfl, o2.mono HB1.out.size, below_grownB HB1.out hlo hg2⟩
/-- Two slices of its own come back. -/
def RetTwoL (w : World) (e : Ending) (w' : World) : Prop := ∃ xs ys v u, e = .returned (.tuple #[v, u]) ∧ Own w' w.heap.size v xs ∧ Own w' w.heap.size u ys ∧ Below w.heap.size w w'
set_option maxHeartbeats 4000000 in
theorem DrawProductOfTwo_any {bs : List Int} {v : Value} {w : World} (h : Bytes w w.heap.size v bs) :
    Calls Try.prog 36 #[v] w (RetTwoL w) := by
  have HBs := Lib.hid h
  clear h
  go_enter Try.func36, Try.ntmps36
  go_wp2_with (go_at_call 62; with_reducible refine (l01From_any HBs.out).mono ?_)
  rintro _ w1 ⟨b, rfl, hs1, hb1⟩
  have HS1 := Lib.hid hs1
  have HB1 := Lib.hid hb1
  have hlo := hs1.lo
  have hbw := hs1.lt
  clear hs1 hb1
  go_wp2_with (go_at_call 63; with_reducible refine (l21Draw_any HS1.out).mono ?_)
  rintro _ w2 ⟨xs, v2, rfl, o2, hs2, hg2⟩
  obtain ⟨va, vc, rfl, hv1, hv2, _⟩ := o2.shape
  have HO2 := Lib.hid o2
  have HS2 := Lib.hid hs2
  have HB2 := Lib.hid (below_grownB HB1.out hlo hg2)
  clear o2 hs2 hg2
  obtain ⟨n, hn⟩ : ∃ n, xs.length = n := ⟨_, rfl⟩
  have HN := Lib.hid hn
  rw [hn] at HO2 hv1 ⊢
  clear hn
  rcases Bool.eq_false_or_eq_true (permB xs) with hp | hp
  · have HP := Lib.hid hp
    have hn1 : 1 ≤ n := by have := (permB_bd hp).1; have := HN.out; omega
    have hn6 : n ≤ 6 := by have := (permB_bd hp).2.1; have := HN.out; omega
    have hf := factZ_bd (n := n) (by omega)
    clear hp
    go_wp2_with (go_at_call 12; with_reducible refine (calls_bool (sIsPermutation_any HO2.out.reads) HP.out).mono ?_)
    rintro _ w3 ⟨rfl, hb3⟩
    have HO3 := Lib.hid (HO2.out.step hb3)
    have HS3 := Lib.hid (HS2.out.step hb3)
    have HB3 := Lib.hid (HB2.out.trans (hb3.mono HB2.out.size))
    clear hb3 HO2 HS2 HB2
    go_wp2_with (go_at_call 64; with_reducible refine (l01Next_any HS3.out 12 (by omega) (by omega)).mono ?_)
    rintro _ w4 ⟨r, rfl, r0, r1, hs4, hg4⟩
    have HO4 := Lib.hid (HO3.out.keptB hbw hg4)
    have HS4 := Lib.hid hs4
    have HB4 := Lib.hid (below_grownB HB3.out hlo hg4)
    clear hs4 hg4 HO3 HS3 HB3
    by_cases hr : 0 < r
    · go_wp2_with (go_at_call 51; ((with_reducible refine (l21Factorial_int _ _ (by omega) (by omega)).mono ?_); rintro e w' ⟨rfl, rfl⟩))
      go_wp2_with (go_at_call 64; with_reducible refine (l01Next_any HS4.out (factZ n) (by omega) (by omega)).mono ?_)
      rintro _ w5 ⟨q, rfl, q0, q1, hs5, hg5⟩
      have HO5 := Lib.hid (HO4.out.keptB hbw hg5)
      have HB5 := Lib.hid (below_grownB HB4.out hlo hg5)
      clear hs5 hg5
      have q2 : q < factZ n := by omega
      go_wp2_with (go_at_call 52; with_reducible refine (l21With_any n q _ hn6 q0 q2).mono ?_)
      rintro _ w6 ⟨v6, rfl, o6, hb6⟩
      go_wp2
      go_ret2
      exact ⟨xs, _, _, v6, rfl, (HO5.out.step hb6).mono HB1.out.size, o6.mono HB5.out.size, HB5.out.trans (hb6.mono HB5.out.size)⟩
    · go_wp2_with (go_at_call 63; with_reducible refine (l21Draw_any HS4.out).mono ?_)
      rintro _ w5 ⟨ys, v5, rfl, o5, hs5, hg5⟩
      go_wp2
      go_ret2
      exact ⟨xs, ys, _, v5, rfl, (HO4.out.keptB hbw hg5).mono HB1.out.size, o5.mono HB4.out.size, below_grownB HB4.out hlo hg5⟩
  · have HP := Lib.hid hp
    clear hp
    go_wp2_with (go_at_call 12; with_reducible refine (calls_bool (sIsPermutation_any HO2.out.reads) HP.out).mono ?_)
    rintro _ w3 ⟨rfl, hb3⟩
    have HO3 := Lib.hid (HO2.out.step hb3)
    have HS3 := Lib.hid (HS2.out.step hb3)
    have HB3 := Lib.hid (HB2.out.trans (hb3.mono HB2.out.size))
    clear hb3 HO2 HS2 HB2
    go_wp2_with (go_at_call 63; with_reducible refine (l21Draw_any HS3.out).mono ?_)
    rintro _ w5 ⟨ys, v5, rfl, o5, hs5, hg5⟩
    go_wp2
    go_ret2
    exact ⟨xs, ys, _, v5, rfl, (HO3.out.keptB hbw hg5).mono HB1.out.size, o5.mono HB3.out.size, below_grownB HB3.out hlo hg5⟩
set_option maxHeartbeats 4000000 in
theorem DrawPermutationWith_any {bs : List Int} {v : Value} {w : World} (h : Bytes w w.heap.size v bs) :
    Calls Try.prog 37 #[v] w (RetTwo 1000 w) := by
  have HBs := Lib.hid h
  clear h
  go_enter Try.func37, Try.ntmps37
  go_wp2_with (go_at_call 62; with_reducible refine (l01From_any HBs.out).mono ?_)
  rintro _ w1 ⟨b, rfl, hs1, hb1⟩
  have HS1 := Lib.hid hs1
  have HB1 := Lib.hid hb1
  have hlo := hs1.lo
  clear hs1 hb1
  go_wp2_with (go_at_call 64; with_reducible refine (l01Next_any HS1.out 9 (by omega) (by omega)).mono ?_)
  rintro _ w2 ⟨n, rfl, n0, n1, hs2, hg2⟩
  have HS2 := Lib.hid hs2
  have HB2 := Lib.hid (below_grownB HB1.out hlo hg2)
  clear hs2 hg2
  go_wp2_with (go_at_call 64; with_reducible refine (l01Next_any HS2.out 24 (by omega) (by omega)).mono ?_)
  rintro _ w3 ⟨x, rfl, x0, x1, hs3, hg3⟩
  have HS3 := Lib.hid hs3
  have HB3 := Lib.hid (below_grownB HB2.out hlo hg3)
  clear hs3 hg3
  go_wp2_with (go_at_call 64; with_reducible refine (l01Next_any HS3.out 720 (by omega) (by omega)).mono ?_)
  rintro _ w4 ⟨y, rfl, y0, y1, hs4, hg4⟩
  have HS4 := Lib.hid hs4
  have HB4 := Lib.hid (below_grownB HB3.out hlo hg4)
  have hb4 := hs4.lt
  clear hs4 hg4
  have hp := Lib.hid (l01Pick_any (n := 7) (g := w4.heap.size) (zs := [x, y, 0, 719, 720, -1, 5]) (w := w4.alloc (.cells #[.int .i64 x, .int .i64 y, .int .i64 0, .int .i64 719, .int .i64 720, .int .i64 (-1), .int .i64 5] 2)) (HS4.out.step (below_box _)) rfl (by decide) (by decide) (by simp) (by omega) (list_new (zs := [x, y, 0, 719, 720, -1, 5])))
  go_wp2_with (go_at_call 65; (with_reducible refine hp.out.mono ?_))
  rintro e w6 ⟨i, hi, rfl, hs6, hg6⟩
  have HB6 := Lib.hid (below_grownB HB4.out hlo (grownT (grown_alloc _) hg6))
  have hi' : i = 0 ∨ i = 1 ∨ i = 2 ∨ i = 3 ∨ i = 4 ∨ i = 5 ∨ i = 6 := by omega
  obtain ⟨P, hP, hP0, hP1⟩ : ∃ P, el [x, y, 0, 719, 720, -1, 5] i = P ∧ -1000 ≤ P ∧ P ≤ 1000 := by
    refine ⟨_, rfl, ?_, ?_⟩
    · rcases hi' with rfl | rfl | rfl | rfl | rfl | rfl | rfl <;> simp [el] <;> omega
    · rcases hi' with rfl | rfl | rfl | rfl | rfl | rfl | rfl <;> simp [el] <;> omega
  rw [hP]
  clear hs6 hg6 hi' hP hi
  go_wp2
  go_ret2
  exact ⟨_, _, rfl, ⟨by omega, by omega⟩, ⟨hP0, hP1⟩, HB6.out⟩

end Go.Proofs.Ytdgigkbfekbkkaa
