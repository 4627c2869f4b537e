/- Contracts: polynomials by a prime are drawn. -/
import Derived.Test.YtlndfjplhfgicaaNj
import Derived.Test.YtlndfjplhfgicaaOg
namespace Go.Proofs.Ytlndfjplhfgicaa
open Go.RowKit
set_option linter.unusedVariables false
set_option linter.unusedSimpArgs false

set_option maxHeartbeats 8000000 in
theorem l08Draw_any {lo b : Nat} {bs : List Int} {w : World} {p : Int} (h : Src w lo b bs) :
    Calls Try.prog 164 #[.pointer (some ⟨b, 0, none⟩), .int .i64 p] w fun e w' => ∃ zs, RetDrawS zs lo b bs w e w' := by
  have hbw := h.lt
  have HS := Lib.hid h
  clear h
  rcases Bool.eq_false_or_eq_true (smallB p) with hq | hq
  case inr =>
    have HP := Lib.hid hq
    clear hq
    go_enter Try.func164, Try.ntmps164
    go_wp2_with (go_at_call 88; ((with_reducible refine (calls_bool (l01Small_any _ _) HP.out).mono ?_); rintro e w' ⟨rfl, rfl⟩))
    go_ret
    exact ⟨[1, 1], _, rfl, Own.pair (Nat.le_refl _) 1 1, HS.out.step (below_box _), grown_alloc _⟩
  have HP := Lib.hid hq
  have hp := small_bd hq
  clear hq
  go_enter Try.func164, Try.ntmps164
  go_wp2_with (go_at_call 88; ((with_reducible refine (calls_bool (l01Small_any _ _) HP.out).mono ?_); rintro e w' ⟨rfl, rfl⟩))
  go_wp2_with (go_at_call 165; with_reducible refine (l08Valid_any HS.out HP.out ⟨by omega, by omega⟩).mono ?_)
  rintro _ w1 ⟨zs, hl, hI, v, rfl, o1, hs1, hg1⟩
  have HO1 := Lib.hid o1
  have HS1 := Lib.hid hs1
  have HG1 := Lib.hid hg1
  have HI := Lib.hid hI
  clear o1 hs1 hg1 hI
  go_wp2_with (go_at_call 82; with_reducible refine (l01Next_any HS1.out 24 (by omega) (by omega)).mono ?_)
  rintro _ w2 ⟨r, rfl, r0, r1, hs2, hg2⟩
  have HO2 := Lib.hid (HO1.out.kept_src hbw hg2)
  have HS2 := Lib.hid hs2
  have HG2 := Lib.hid (grownT HG1.out hg2)
  have hb2 := hs2.lt
  have hsz := HG2.out.size
  clear hs2 hg2 HO1 HS1 HG1
  by_cases h0 : r = 0
  · subst h0
    have hpk := Lib.hid (l01Pick_any (n := 3) (g := w2.heap.size) (zs := [0, p, -1]) (w := w2.alloc (.cells #[.int .i64 0, .int .i64 p, .int .i64 (-1)] 2)) (HS2.out.step (below_box _)) rfl (by decide) (by decide) (by simp) (by omega) (list_new (zs := [0, p, -1])))
    go_wp2_with (go_at_call 83; (with_reducible refine hpk.out.mono ?_))
    rintro e w4 ⟨i, hi, rfl, hs4, hg4⟩
    have HR4 := Lib.hid hs4
    have HO4 := Lib.hid ((HO2.out.step (below_box _)).kept_src hbw hg4)
    have HG4 := Lib.hid (grownT HG2.out (grownT (grown_alloc _) hg4))
    have hsz4 := HG4.out.size
    have hzl : zs.length + 1 ≤ 1099511627776 := by omega
    clear hs4 hg4 hpk
    go_wp2_with (at_builtin; refine append_one _ rfl _ _ rfl rfl HO4.out hzl hsz4 rfl ?_)
    intro vv w5 hown5 hbel5
    go_wp2
    go_ret
    exact ⟨_, vv, rfl, hown5, HR4.out.below hbw hbel5, grown_below HG4.out hbel5⟩
  have h0b : (r == 0) = false := by simpa using h0
  by_cases h1 : r = 1
  · subst h1
    go_wp2
    go_ret
    exact ⟨[], _, rfl, Own.empty hsz, HS2.out.step (below_box _), grownT HG2.out (grown_alloc _)⟩
  have h1b : (r == 1) = false := by simpa using h1
  by_cases h2 : r = 2
  · subst h2
    go_wp2_with (go_at_call 165; with_reducible refine (l08Valid_any HS2.out HP.out ⟨by omega, by omega⟩).mono ?_)
    rintro _ w3 ⟨ys, hl3, hI3, u, rfl, o3, hs3, hg3⟩
    go_wp2
    go_ret
    exact ⟨ys, u, rfl, o3.mono hsz, hs3, grownT HG2.out hg3⟩
  have h2b : (r == 2) = false := by simpa using h2
  by_cases h3 : r = 3
  · subst h3
    go_wp2_with (go_at_call 165; with_reducible refine (l08Valid_any HS2.out HP.out ⟨by omega, by omega⟩).mono ?_)
    rintro _ w3 ⟨ys, hl3, hI3, u, rfl, o3, hs3, hg3⟩
    have HG3 := Lib.hid (grownT HG2.out hg3)
    have HS3 := Lib.hid hs3
    have hsz3 := HG3.out.size
    go_wp2_with (go_at_call 124; with_reducible refine (l08Multiply_any o3.reads o3.reads hI3 hI3 hp (by omega) (by omega)).mono ?_)
    rintro _ w4 ⟨v4, rfl, o4, hb4⟩
    go_wp2
    go_ret
    exact ⟨_, v4, rfl, o4.mono hsz3, HS3.out.step hb4, grownT HG3.out (below_grownS _ hb4)⟩
  have h3b : (r == 3) = false := by simpa using h3
  go_wp2
  go_ret
  exact ⟨zs, v, rfl, HO2.out, HS2.out, HG2.out⟩

/-- A number and a slice of its own come back. -/
def RetNumL (m : Int) (w : World) (e : Ending) (w' : World) : Prop := ∃ p xs v, e = .returned (.tuple #[.int .i64 p, v]) ∧ (-m ≤ p ∧ p ≤ m) ∧ Own w' w.heap.size v xs ∧ Below w.heap.size w w'
/-- A number and two slices of its own come back. -/
def RetNumLL (m : Int) (w : World) (e : Ending) (w' : World) : Prop := ∃ p xs ys v u, e = .returned (.tuple #[.int .i64 p, v, u]) ∧ (-m ≤ p ∧ p ≤ m) ∧ Own w' w.heap.size v xs ∧ Own w' w.heap.size u ys ∧ Below w.heap.size w w'
set_option maxHeartbeats 4000000 in
theorem DrawIsModular_any {bs : List Int} {v : Value} {w : World} (h : Bytes w w.heap.size v bs) :
    Calls Try.prog 116 #[v] w (RetNumL 1000000000001 w) := by
  have HBs := Lib.hid h
  clear h
  go_enter Try.func116, Try.ntmps116
  go_wp2_with (go_at_call 78; with_reducible refine (l01From_any HBs.out).mono ?_)
  rintro _ w1 ⟨b, rfl, hs1, hb1⟩
  have HS1 := Lib.hid hs1
  have HB1 := Lib.hid hb1
  have hlo := hs1.lo
  clear hs1 hb1
  go_wp2_with (go_at_call 125; with_reducible refine (l08DrawPrime_any HS1.out).mono ?_)
  rintro _ w2 ⟨p, rfl, p0, p1, hs2, hg2⟩
  have HS2 := Lib.hid hs2
  have HB2 := Lib.hid (below_grownB HB1.out hlo hg2)
  clear hs2 hg2
  go_wp2_with (go_at_call 164; with_reducible refine (l08Draw_any HS2.out).mono ?_)
  rintro _ w3 ⟨zs, v3, rfl, o3, hs3, hg3⟩
  go_wp2
  go_ret2
  exact ⟨p, zs, v3, rfl, ⟨p0, p1⟩, o3.mono HB2.out.size, below_grownB HB2.out hlo hg3⟩
set_option maxHeartbeats 8000000 in
theorem l08DrawTwo_any {bs : List Int} {v : Value} {w : World} (h : Bytes w w.heap.size v bs) :
    Calls Try.prog 113 #[v] w (RetNumLL 1000000000001 w) := by
  have HBs := Lib.hid h
  clear h
  go_enter Try.func113, Try.ntmps113
  go_wp2_with (go_at_call 78; with_reducible refine (l01From_any HBs.out).mono ?_)
  rintro _ w1 ⟨b, rfl, hs1, hb1⟩
  have HS1 := Lib.hid hs1
  have HB1 := Lib.hid hb1
  have hlo := hs1.lo
  have hbw := hs1.lt
  clear hs1 hb1
  go_wp2_with (go_at_call 125; with_reducible refine (l08DrawPrime_any HS1.out).mono ?_)
  rintro _ w2 ⟨p, rfl, p0, p1, hs2, hg2⟩
  have HS2 := Lib.hid hs2
  have HB2 := Lib.hid (below_grownB HB1.out hlo hg2)
  have hbw2 := hs2.lt
  clear hs2 hg2
  go_wp2_with (go_at_call 164; with_reducible refine (l08Draw_any HS2.out).mono ?_)
  rintro _ w3 ⟨xs, v3, rfl, o3, hs3, hg3⟩
  have HS3 := Lib.hid hs3
  have HX3 := Lib.hid o3
  have HB3 := Lib.hid (below_grownB HB2.out hlo hg3)
  have hbw3 := hs3.lt
  clear hs3 hg3 o3
  go_wp2_with (go_at_call 164; with_reducible refine (l08Draw_any HS3.out).mono ?_)
  rintro _ w4 ⟨ys, v4, rfl, o4, hs4, hg4⟩
  have HS4 := Lib.hid hs4
  have HX4 := Lib.hid (HX3.out.kept_src hbw2 hg4)
  have HY4 := Lib.hid o4
  have HB4 := Lib.hid (below_grownB HB3.out hlo hg4)
  have hbw4 := hs4.lt
  clear hs4 hg4 o4 HX3
  rcases Bool.eq_false_or_eq_true (smallB p) with hq | hq
  case inr =>
    have HP := Lib.hid hq
    clear hq
    go_wp2_with (go_at_call 88; ((with_reducible refine (calls_bool (l01Small_any _ _) HP.out).mono ?_); rintro e w' ⟨rfl, rfl⟩))
    refine bodyPost_ret (v := .tuple #[.int .i64 p, v3, v4]) (by simp [results, Try.results113, go_sem, ↓IntWalk.iteOmega]) rfl ?_
    exact ⟨p, xs, ys, v3, v4, rfl, ⟨p0, p1⟩, HX4.out.mono HB2.out.size, HY4.out.mono HB3.out.size, HB4.out⟩
  have HP := Lib.hid hq
  have hp := small_bd hq
  clear hq
  go_wp2_with (go_at_call 88; ((with_reducible refine (calls_bool (l01Small_any _ _) HP.out).mono ?_); rintro e w' ⟨rfl, rfl⟩))
  go_wp2_with (go_at_call 82; with_reducible refine (l01Next_any HS4.out 3 (by omega) (by omega)).mono ?_)
  rintro _ w5 ⟨r, rfl, r0, r1, hs5, hg5⟩
  have HS5 := Lib.hid hs5
  have HX5 := Lib.hid (HX4.out.kept_src hbw2 hg5)
  have HY5 := Lib.hid (HY4.out.kept_src hbw3 hg5)
  have HB5 := Lib.hid (below_grownB HB4.out hlo hg5)
  clear hs5 hg5 HX4 HY4
  by_cases h0 : r = 0
  · subst h0
    clear HX5 HY5
    go_wp2_with (go_at_call 165; with_reducible refine (l08Valid_any HS5.out HP.out ⟨by omega, by omega⟩).mono ?_)
    rintro _ w6 ⟨hz, l6, I6, v6, rfl, o6, hs6, hg6⟩
    have HS6 := Lib.hid hs6
    have HH6 := Lib.hid o6
    have HI6 := Lib.hid I6
    have HB6 := Lib.hid (below_grownB HB5.out hlo hg6)
    have hbw6 : b < w5.heap.size := HS5.out.lt
    clear hs6 hg6 o6 I6
    go_wp2_with (go_at_call 165; with_reducible refine (l08Valid_any HS6.out HP.out ⟨by omega, by omega⟩).mono ?_)
    rintro _ w7 ⟨t1, l7, I7, v7, rfl, o7, hs7, hg7⟩
    have HS7 := Lib.hid hs7
    have HH7 := Lib.hid (HH6.out.kept_src hbw6 hg7)
    have HB7 := Lib.hid (below_grownB HB6.out hlo hg7)
    clear hs7 hg7 HH6
    go_wp2_with (go_at_call 124; with_reducible refine (l08Multiply_any HH7.out.reads o7.reads HI6.out I7 hp (by omega) (by omega)).mono ?_)
    rintro _ w8 ⟨v8, rfl, o8, hb8⟩
    have HS8 := Lib.hid (HS7.out.step hb8)
    have HH8 := Lib.hid (HH7.out.step hb8)
    have HX8 := Lib.hid o8
    have HB8 := Lib.hid (HB7.out.trans (hb8.mono HB7.out.size))
    have hbw8 : b < w7.heap.size := HS7.out.lt
    clear hb8 o8 o7 I7 HH7
    go_wp2_with (go_at_call 165; with_reducible refine (l08Valid_any HS8.out HP.out ⟨by omega, by omega⟩).mono ?_)
    rintro _ w9 ⟨t2, l9, I9, v9, rfl, o9, hs9, hg9⟩
    have HH9 := Lib.hid (HH8.out.kept_src hbw6 hg9)
    have HX9 := Lib.hid (HX8.out.kept_src hbw8 hg9)
    have HB9 := Lib.hid (below_grownB HB8.out hlo hg9)
    clear hs9 hg9 HH8 HX8
    go_wp2_with (go_at_call 124; with_reducible refine (l08Multiply_any HH9.out.reads o9.reads HI6.out I9 hp (by omega) (by omega)).mono ?_)
    rintro _ wA ⟨vA, rfl, oA, hbA⟩
    go_wp2
    refine bodyPost_ret (v := .tuple #[.int .i64 p, v8, vA]) (by simp [results, Try.results113, go_sem, ↓IntWalk.iteOmega]) rfl ?_
    exact ⟨p, _, _, v8, vA, rfl, ⟨p0, p1⟩, (HX9.out.step hbA).mono HB7.out.size, oA.mono HB9.out.size, HB9.out.trans (hbA.mono HB9.out.size)⟩
  · have h0b : (r == 0) = false := by simpa using h0
    go_wp2
    refine bodyPost_ret (v := .tuple #[.int .i64 p, v3, v4]) (by simp [results, Try.results113, go_sem, ↓IntWalk.iteOmega]) rfl ?_
    exact ⟨p, xs, ys, v3, v4, rfl, ⟨p0, p1⟩, HX5.out.mono HB2.out.size, HY5.out.mono HB3.out.size, HB5.out⟩
set_option maxHeartbeats 1000000 in
theorem DrawMultiplyModular_any {bs : List Int} {v : Value} {w : World} (h : Bytes w w.heap.size v bs) :
    Calls Try.prog 50 #[v] w (RetNumLL 1000000000001 w) := by
  have HBs := Lib.hid h
  clear h
  go_enter Try.func50, Try.ntmps50
  go_wp2_with (go_at_call 113; with_reducible refine (l08DrawTwo_any HBs.out).mono ?_)
  rintro _ w1 ⟨p, xs, ys, v1, u1, rfl, hp, o1, p1, hb1⟩
  go_wp2
  refine bodyPost_ret (v := .tuple #[.int .i64 p, v1, u1]) (by simp [results, Try.results50, go_sem, ↓IntWalk.iteOmega]) rfl ?_
  exact ⟨p, xs, ys, v1, u1, rfl, hp, o1, p1, hb1⟩
set_option maxHeartbeats 1000000 in
theorem DrawDivideModular_any {bs : List Int} {v : Value} {w : World} (h : Bytes w w.heap.size v bs) :
    Calls Try.prog 48 #[v] w (RetNumLL 1000000000001 w) := by
  have HBs := Lib.hid h
  clear h
  go_enter Try.func48, Try.ntmps48
  go_wp2_with (go_at_call 113; with_reducible refine (l08DrawTwo_any HBs.out).mono ?_)
  rintro _ w1 ⟨p, xs, ys, v1, u1, rfl, hp, o1, p1, hb1⟩
  go_wp2
  refine bodyPost_ret (v := .tuple #[.int .i64 p, v1, u1]) (by simp [results, Try.results48, go_sem, ↓IntWalk.iteOmega]) rfl ?_
  exact ⟨p, xs, ys, v1, u1, rfl, hp, o1, p1, hb1⟩
set_option maxHeartbeats 1000000 in
theorem DrawCommonModular_any {bs : List Int} {v : Value} {w : World} (h : Bytes w w.heap.size v bs) :
    Calls Try.prog 39 #[v] w (RetNumLL 1000000000001 w) := by
  have HBs := Lib.hid h
  clear h
  go_enter Try.func39, Try.ntmps39
  go_wp2_with (go_at_call 113; with_reducible refine (l08DrawTwo_any HBs.out).mono ?_)
  rintro _ w1 ⟨p, xs, ys, v1, u1, rfl, hp, o1, p1, hb1⟩
  go_wp2
  refine bodyPost_ret (v := .tuple #[.int .i64 p, v1, u1]) (by simp [results, Try.results39, go_sem, ↓IntWalk.iteOmega]) rfl ?_
  exact ⟨p, xs, ys, v1, u1, rfl, hp, o1, p1, hb1⟩
set_option maxHeartbeats 1000000 in
theorem DrawIsSquareFree_any {bs : List Int} {v : Value} {w : World} (h : Bytes w w.heap.size v bs) :
    Calls Try.prog 42 #[v] w (RetNumL 1000000000001 w) := by
  have HBs := Lib.hid h
  clear h
  go_enter Try.func42, Try.ntmps42
  go_wp2_with (go_at_call 116; with_reducible refine (DrawIsModular_any HBs.out).mono ?_)
  rintro _ w1 ⟨p, xs, v1, rfl, hp, o1, hb1⟩
  go_wp2
  go_ret2
  exact ⟨p, xs, v1, rfl, hp, o1, hb1⟩
set_option maxHeartbeats 1000000 in
theorem DrawRootsModular_any {bs : List Int} {v : Value} {w : World} (h : Bytes w w.heap.size v bs) :
    Calls Try.prog 58 #[v] w (RetNumL 1000000000001 w) := by
  have HBs := Lib.hid h
  clear h
  go_enter Try.func58, Try.ntmps58
  go_wp2_with (go_at_call 116; with_reducible refine (DrawIsModular_any HBs.out).mono ?_)
  rintro _ w1 ⟨p, xs, v1, rfl, hp, o1, hb1⟩
  go_wp2
  go_ret2
  exact ⟨p, xs, v1, rfl, hp, o1, hb1⟩

end Go.Proofs.Ytlndfjplhfgicaa
