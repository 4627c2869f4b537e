/- Contracts: the draws of the law on Eisenstein polynomials. -/
import Derived.Test.YtlndfjplhfgicaaEd
namespace Go.Proofs.Ytlndfjplhfgicaa
open Go.RowKit
set_option linter.unusedVariables false
set_option linter.unusedSimpArgs false

/-- A number and a slice of its own come back; the source goes on. -/
def RetNumS (m : Int) (b : Nat) (w : World) (e : Ending) (w' : World) : Prop := ∃ p xs v, e = .returned (.tuple #[.int .i64 p, v]) ∧ (-m ≤ p ∧ p ≤ m) ∧ Own w' w.heap.size v xs ∧ w.grownBy w' (some b)
set_option maxHeartbeats 16000000 in
theorem l15Draw_any {lo b : Nat} {bs : List Int} {w : World} (h : Src w lo b bs) :
    Calls Try.prog 134 #[.pointer (some ⟨b, 0, none⟩)] w (RetNumS 1000000000001 b w) := by
  have hbw := h.lt
  have HS := Lib.hid h
  clear h
  go_enter Try.func134, Try.ntmps134
  go_wp2_with (go_at_call 125; with_reducible refine (l08DrawPrime_any HS.out).mono ?_)
  rintro _ w1 ⟨p, rfl, p0, p1, hs1, hg1⟩
  have HS1 := Lib.hid hs1
  have HG1 := Lib.hid hg1
  have hsz1 := hg1.size
  clear hs1 hg1
  rcases Bool.eq_false_or_eq_true (smallB p) with hq | hq
  case inr =>
    have HP := Lib.hid hq
    clear hq
    go_wp2_with (go_at_call 88; ((with_reducible refine (calls_bool (l01Small_any _ _) HP.out).mono ?_); rintro e w' ⟨rfl, rfl⟩))
    go_wp2_with (go_at_call 126; with_reducible refine (l06Draw_any HS1.out).mono ?_)
    rintro _ w2 ⟨zs, v, rfl, o2, hs2, hg2⟩
    go_wp2
    go_ret2
    exact ⟨p, zs, v, rfl, ⟨p0, p1⟩, o2.mono hsz1, grownT HG1.out hg2⟩
  have HP := Lib.hid hq
  obtain ⟨q0, q1⟩ := small_bd hq
  clear hq
  go_wp2_with (go_at_call 88; ((with_reducible refine (calls_bool (l01Small_any _ _) HP.out).mono ?_); rintro e w' ⟨rfl, rfl⟩))
  go_wp2_with (go_at_call 82; with_reducible refine (l01Next_any HS1.out 8 (by omega) (by omega)).mono ?_)
  rintro _ w2 ⟨r, rfl, r0, r1, hs2, hg2⟩
  have HS2 := Lib.hid hs2
  have HG2 := Lib.hid (grownT HG1.out hg2)
  have hsz2 := HG2.out.size
  clear hs2 hg2
  by_cases hr : r = 0
  · subst hr
    go_wp2_with (go_at_call 126; with_reducible refine (l06Draw_any HS2.out).mono ?_)
    rintro _ w3 ⟨zs, v, rfl, o3, hs3, hg3⟩
    go_wp2
    go_ret2
    exact ⟨p, zs, v, rfl, ⟨p0, p1⟩, o3.mono hsz2, grownT HG2.out hg3⟩
  have hrb : (r == 0) = false := by simpa using hr
  go_wp2_with (go_at_call 82; with_reducible refine (l01Next_any HS2.out 5 (by omega) (by omega)).mono ?_)
  rintro _ w3 ⟨n, rfl, n0, n1, hs3, hg3⟩
  have HS3 := Lib.hid (hs3.step (below_box (.cells #[] 2)))
  have HG3 := Lib.hid (grownT (grownT HG2.out hg3) (grown_alloc (.cells #[] 2)))
  have hsz3 := (grownT HG2.out hg3).size
  have HO3 := Lib.hid (Own.empty (w := w3) (lo := w.heap.size) hsz3)
  clear hs3 hg3
  go_wp2
  go_loopw [6, 7] (fun o c wr => ∃ (k : Nat) (zs : List Int), c = .int .i64 (k : Int) ∧ zs.length = k ∧ (k : Int) ≤ 1 + n ∧ Own wr w.heap.size o zs ∧ Src wr lo b bs ∧ w.grownBy wr (some b)) (fun _ c _ => (1 + n - intOf c).toNat)
  case atStart => exact ⟨0, [], rfl, rfl, by omega, HO3.out, HS3.out, HG3.out⟩
  case round =>
    clear HO3 HS3 HG3 HS2 HG2 HS1 HG1
    obtain ⟨k, zs, rfl, hz, hk, hown, hsrc, hgr⟩ := hrel
    have HO := Lib.hid hown
    have HR := Lib.hid hsrc
    have HG := Lib.hid hgr
    have HZ := Lib.hid hz
    have hzl : zs.length + 1 ≤ 1099511627776 := by omega
    clear hown hsrc hgr hz
    by_cases hlt : (k : Int) < 1 + n
    · go_wp2_with (go_at_call 82; with_reducible refine (l01Next_any HR.out 9 (by omega) (by omega)).mono ?_)
      rintro _ w4 ⟨x, rfl, x0, x1, hs4, hg4⟩
      have HR4 := Lib.hid hs4
      have HO4 := Lib.hid (HO.out.kept_src hbw hg4)
      have HG4 := Lib.hid (grownT HG.out hg4)
      have hsz := HG4.out.size
      clear hs4 hg4 HR HO HG
      obtain ⟨m0, m1⟩ := abs_mul_le (x := p) (y := x - 4) (a := 97) (b := 9) ⟨by omega, by omega⟩ ⟨by omega, by omega⟩
      go_wp2_with (at_builtin; refine append_one _ rfl _ _ rfl rfl HO4.out hzl hsz rfl ?_)
      intro vv w6 hown6 hbel6
      go_wp2
      go_roundw
      case rel => exact ⟨k + 1, zs ++ [p * (x - 4)], by go_num, by simp; have := HZ.out; omega, by omega, hown6, HR4.out.below hbw hbel6, grown_below HG4.out hbel6⟩
      case measure => simp [intOf]; omega
    · obtain ⟨g, cap, hv, g1, g2, g3, g4⟩ := HO.out.head (by have := HZ.out; omega)
      subst hv
      have hb0 := HR.out.lt
      obtain ⟨kk, hkk⟩ : ∃ kk, zs.length = kk := ⟨_, rfl⟩
      have HZK := Lib.hid hkk
      have hkk0 : 0 < kk := by have := HZ.out; omega
      have hkk1 : (0 : Int) < (kk : Int) := by omega
      rw [hkk] at HO g3 hzl ⊢
      clear hkk
      have hpk := Lib.hid (l01Pick_any (n := 5) (g := wr.heap.size) (zs := [1, -1, 1, p, 2]) (w := wr.alloc (.cells #[.int .i64 1, .int .i64 (-1), .int .i64 1, .int .i64 p, .int .i64 2] 2)) (HR.out.step (below_box _)) rfl (by decide) (by decide) (by simp) (by omega) (list_new (zs := [1, -1, 1, p, 2])))
      go_wp2_with (go_at_call 83; (with_reducible refine hpk.out.mono ?_))
      rintro e w5 i hi rfl hs5 hg5
      obtain ⟨P, hP, hP0, hP1⟩ : ∃ P, el [1, -1, 1, p, 2] i = P ∧ -97 ≤ P ∧ P ≤ 97 := by
        have hi' : i = 0 ∨ i = 1 ∨ i = 2 ∨ i = 3 ∨ i = 4 := by omega
        refine ⟨_, rfl, ?_, ?_⟩
        · rcases hi' with rfl | rfl | rfl | rfl | rfl <;> simp [el] <;> omega
        · rcases hi' with rfl | rfl | rfl | rfl | rfl <;> simp [el] <;> omega
      rw [hP]
      obtain ⟨m0, m1⟩ := abs_mul_le (x := p) (y := P) (a := 97) (b := 97) ⟨by omega, by omega⟩ ⟨hP0, hP1⟩
      have HS5 := Lib.hid hs5
      have HO5 := Lib.hid ((HO.out.step (below_box _)).kept_src hbw hg5)
      have HG5 := Lib.hid (grownT HG.out (grownT (grown_alloc _) hg5))
      have c2 := HO5.out.cellAt (i := 0) (by have := HZ.out; omega)
      have c3 := HO5.out.frozenAt 0
      obtain ⟨s1, s2⟩ := HO5.out.stored 0 (p * P)
      have hgl := (HO5.out.lt g rfl).1
      have kb : Below w.heap.size w5 (w5.setCell ⟨g, 0, none⟩ (.int .i64 (p * P))) := (Below.refl _ _).grown s2 HG5.out.size (fun k hk => by injection hk with hk; omega)
      have HS6 := Lib.hid (HS5.out.below hbw kb)
      have HO6 := Lib.hid s1
      have HG6 := Lib.hid (grown_below HG5.out kb)
      have hsz6 := HG6.out.size
      have hzl6 : (zs.set 0 (p * P)).length + 1 ≤ 1099511627776 := by rw [List.length_set, HZK.out]; exact hzl
      clear hs5 hg5 hpk hP hi s1 s2 kb HS5 HG5
      go_wp2_with (at_builtin; refine append_one (w5.setCell ⟨g, 0, none⟩ (.int .i64 (p * P))) rfl (.tmp 48) (.tmp 49) rfl rfl HO6.out hzl6 hsz6 (by rw [← size_setCell]; rfl) ?_)
      intro v7 w7 hown7 hbel7
      have HO7 := Lib.hid hown7
      have HS7 := Lib.hid (HS6.out.below hbw hbel7)
      have HG7 := Lib.hid (grown_below HG6.out hbel7)
      clear hown7 hbel7 HO6 HS6 HG6 HO5
      go_wp2_with (go_at_call 82; with_reducible refine (l01Next_any HS7.out 6 (by omega) (by omega)).mono ?_)
      rintro _ w8 ⟨t, rfl, t0, t1, hs8, hg8⟩
      have HO8 := Lib.hid (HO7.out.kept_src hbw hg8)
      have HS8 := Lib.hid hs8
      have HG8 := Lib.hid (grownT HG7.out hg8)
      have hsz8 := HG8.out.size
      clear hs8 hg8 HO7 HS7 HG7
      by_cases ht0 : t = 0
      · subst ht0
        go_wp2_with (go_at_call 82; with_reducible refine (l01Next_any HS8.out p (by omega) (by omega)).mono ?_)
        rintro _ w9 ⟨a, rfl, a0, a1, hs9, hg9⟩
        have HO9 := Lib.hid (HO8.out.kept_src hbw hg9)
        have HG9 := Lib.hid (grownT HG8.out hg9)
        have hsz9 := HG9.out.size
        clear hs9 hg9
        go_wp2_with (go_at_call 184; with_reducible refine (ShiftPolynomial_some HO9.out.reads).mono ?_)
        rintro _ wA ⟨R, c, vA, rfl, oA, hbA⟩
        by_cases hc : c = 0
        · subst hc
          go_wp2
          go_ret2
          exact ⟨p, R, vA, rfl, ⟨p0, p1⟩, oA.mono hsz9, grownT HG9.out (below_grownS _ hbA)⟩
        · have hcb : (c == 0) = false := by simpa using hc
          go_wp2
          go_ret2
          exact ⟨p, _, v7, rfl, ⟨p0, p1⟩, HO9.out.step hbA, grownT HG9.out (below_grownS _ hbA)⟩
      have ht0b : (t == 0) = false := by simpa using ht0
      by_cases ht1 : t = 1
      · subst ht1
        go_wp2_with (go_at_call 165; with_reducible refine (l08Valid_any HS8.out HP.out ⟨by omega, by omega⟩).mono ?_)
        rintro _ w9 ⟨ys, hy1, hy2, u, rfl, o9, hs9, hg9⟩
        have hyl : ys.length + 1 ≤ 1099511627776 := by omega
        have HG9 := Lib.hid (grownT HG8.out hg9)
        have hsz9 := HG9.out.size
        have HO9 := Lib.hid (o9.mono hsz8)
        clear o9 hs9 hg9
        go_wp2_with (at_builtin; refine append_one _ rfl _ _ rfl rfl HO9.out hyl hsz9 rfl ?_)
        intro vA wA hownA hbelA
        go_wp2
        go_ret2
        exact ⟨p, _, vA, rfl, ⟨p0, p1⟩, hownA, grown_below HG9.out hbelA⟩
      have ht1b : (t == 1) = false := by simpa using ht1
      go_wp2
      go_ret2
      exact ⟨p, _, v7, rfl, ⟨p0, p1⟩, HO8.out, HG8.out⟩
set_option maxHeartbeats 4000000 in
theorem DrawDifferentOf_any {bs : List Int} {v : Value} {w : World} (h : Bytes w w.heap.size v bs) :
    Calls Try.prog 64 #[v] w (RetNumL 1000000000001 w) := by
  have HBs := Lib.hid h
  clear h
  go_enter Try.func64, Try.ntmps64
  go_wp2_with (go_at_call 78; with_reducible refine (l01From_any HBs.out).mono ?_)
  rintro _ w1 ⟨b, rfl, hs1, hb1⟩
  have HS1 := Lib.hid hs1
  have HB1 := Lib.hid hb1
  have hlo := hs1.lo
  clear hs1 hb1
  go_wp2_with (go_at_call 134; with_reducible refine (l15Draw_any HS1.out).mono ?_)
  rintro _ w2 ⟨p, xs, v2, rfl, hp, o2, hg2⟩
  go_wp2
  go_ret2
  exact ⟨p, xs, v2, rfl, hp, o2.mono HB1.out.size, below_grownB HB1.out hlo hg2⟩
set_option maxHeartbeats 4000000 in
theorem DrawEisensteinPolynomial_any {bs : List Int} {v : Value} {w : World} (h : Bytes w w.heap.size v bs) :
    Calls Try.prog 71 #[v] w (RetThree 1000000000001 w) := by
  have HBs := Lib.hid h
  clear h
  go_enter Try.func71, Try.ntmps71
  go_wp2_with (go_at_call 78; with_reducible refine (l01From_any HBs.out).mono ?_)
  rintro _ w1 ⟨b, rfl, hs1, hb1⟩
  have HS1 := Lib.hid hs1
  have HB1 := Lib.hid hb1
  have hlo := hs1.lo
  clear hs1 hb1
  go_wp2_with (go_at_call 81; with_reducible refine (l01DrawPrime_any HS1.out).mono ?_)
  rintro _ w2 ⟨p, rfl, p0, p1, hs2, hg2⟩
  have HS2 := Lib.hid hs2
  have HB2 := Lib.hid (below_grownB HB1.out hlo hg2)
  clear hs2 hg2
  go_wp2_with (go_at_call 82; with_reducible refine (l01Next_any HS2.out 10 (by omega) (by omega)).mono ?_)
  rintro _ w3 ⟨x, rfl, x0, x1, hs3, hg3⟩
  have HS3 := Lib.hid hs3
  have HB3 := Lib.hid (below_grownB HB2.out hlo hg3)
  clear hs3 hg3
  go_wp2_with (go_at_call 82; with_reducible refine (l01Next_any HS3.out 21 (by omega) (by omega)).mono ?_)
  rintro _ w4 ⟨y, rfl, y0, y1, hs4, hg4⟩
  have HS4 := Lib.hid hs4
  have HB4 := Lib.hid (below_grownB HB3.out hlo hg4)
  have hb4 := hs4.lt
  clear hs4 hg4
  have hp := Lib.hid (l01Pick_any (n := 4) (g := w4.heap.size) (zs := [y - 10, 100, 101, -101]) (w := w4.alloc (.cells #[.int .i64 (y - 10), .int .i64 100, .int .i64 101, .int .i64 (-101)] 2)) (HS4.out.step (below_box _)) rfl (by decide) (by decide) (by simp) (by omega) (list_new (zs := [y - 10, 100, 101, -101])))
  go_wp2_with (go_at_call 83; (with_reducible refine hp.out.mono ?_))
  rintro e w6 ⟨i, hi, rfl, hs6, hg6⟩
  have HB6 := Lib.hid (below_grownB HB4.out hlo (grownT (grown_alloc _) hg6))
  have hi' : i = 0 ∨ i = 1 ∨ i = 2 ∨ i = 3 := by omega
  obtain ⟨P, hP, hP0, hP1⟩ : ∃ P, el [y - 10, 100, 101, -101] i = P ∧ -1000 ≤ P ∧ P ≤ 1000 := by
    refine ⟨_, rfl, ?_, ?_⟩
    · rcases hi' with rfl | rfl | rfl | rfl <;> simp [el] <;> omega
    · rcases hi' with rfl | rfl | rfl | rfl <;> simp [el] <;> omega
  rw [hP]
  clear hs6 hg6 hi' hP hi
  go_wp2
  refine bodyPost_ret (v := .tuple #[.int .i64 p, .int .i64 x, .int .i64 P]) (by simp [results, Try.results71, go_sem, ↓IntWalk.iteOmega]) rfl ?_
  exact ⟨p, x, P, rfl, ⟨p0, p1⟩, ⟨by omega, by omega⟩, ⟨by omega, by omega⟩, HB6.out⟩

end Go.Proofs.Ytlndfjplhfgicaa
