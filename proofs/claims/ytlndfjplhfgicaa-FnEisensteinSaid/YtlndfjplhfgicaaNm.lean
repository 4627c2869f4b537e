/- Contracts: polynomials are drawn. -/
import Derived.Test.YtlndfjplhfgicaaNk
import Derived.Test.YtlndfjplhfgicaaNi
namespace Go.Proofs.Ytlndfjplhfgicaa
open Go.RowKit
set_option linter.unusedVariables false
set_option linter.unusedSimpArgs false

set_option maxHeartbeats 8000000 in
theorem l06Valid_any {lo b : Nat} {bs : List Int} {w : World} {d : Int} (h : Src w lo b bs) (hd : 0 ≤ d ∧ d ≤ 10) :
    Calls Try.prog 178 #[.pointer (some ⟨b, 0, none⟩), .int .i64 d] w fun e w' => ∃ zs, 1 ≤ zs.length ∧ zs.length ≤ 11 ∧ RetDrawS zs lo b bs w e w' := by
  have hbw := h.lt
  have hlo := h.lo
  have HS := Lib.hid (h.step (below_box (.cells #[] 2)))
  have HO := Lib.hid (Own.empty (w := w) (lo := w.heap.size) (Nat.le_refl _))
  have HG0 := Lib.hid (grown_alloc (w := w) (r := some b) (.cells #[] 2))
  clear h
  go_enter Try.func178, Try.ntmps178
  go_wp2
  go_loopw [5, 6] (fun o c wr => ∃ (k : Nat) (zs : List Int), c = .int .i64 (k : Int) ∧ zs.length = k ∧ (k : Int) ≤ d ∧ Own wr w.heap.size o zs ∧ Src wr lo b bs ∧ w.grownBy wr (some b)) (fun _ c _ => (d - intOf c).toNat)
  case atStart => exact ⟨0, [], rfl, rfl, by omega, HO.out, HS.out, HG0.out⟩
  case round =>
    clear HO HS HG0
    obtain ⟨k, zs, rfl, hz, hk, hown, hsrc, hgr⟩ := hrel
    have HO := Lib.hid hown
    have HR := Lib.hid hsrc
    have HG := Lib.hid hgr
    have HZ := Lib.hid hz
    have hzl : zs.length + 1 ≤ 1099511627776 := by omega
    clear hown hsrc hgr hz
    by_cases hlt : (k : Int) < d
    · go_wp2_with (go_at_call 82; with_reducible refine (l01Next_any HR.out 13 (by omega) (by omega)).mono ?_)
      rintro _ w2 ⟨x, rfl, x0, x1, hs2, hg2⟩
      have HR2 := Lib.hid hs2
      have HO2 := Lib.hid (HO.out.kept_src hbw hg2)
      have HG2 := Lib.hid (grownT HG.out hg2)
      clear hs2 hg2 HR HO HG
      go_wp2_with (go_at_call 82; with_reducible refine (l01Next_any HR2.out 5 (by omega) (by omega)).mono ?_)
      rintro _ w3 ⟨y, rfl, y0, y1, hs3, hg3⟩
      have HR3 := Lib.hid hs3
      have HO3 := Lib.hid (HO2.out.kept_src hbw hg3)
      have HG3 := Lib.hid (grownT HG2.out hg3)
      clear hs3 hg3 HR2 HO2 HG2
      go_wp2_with (go_at_call 82; with_reducible refine (l01Next_any HR3.out 201 (by omega) (by omega)).mono ?_)
      rintro _ w4 ⟨z, rfl, z0, z1, hs4, hg4⟩
      have HR4 := Lib.hid hs4
      have HO4 := Lib.hid (HO3.out.kept_src hbw hg4)
      have HG4 := Lib.hid (grownT HG3.out hg4)
      have hb4 := hs4.lt
      clear hs4 hg4 HR3 HO3 HG3
      have hpk := Lib.hid (l01Pick_any (n := 4) (g := w4.heap.size) (zs := [x - 6, y - 2, 0, z - 100]) (w := w4.alloc (.cells #[.int .i64 (x - 6), .int .i64 (y - 2), .int .i64 0, .int .i64 (z - 100)] 2)) (HR4.out.step (below_box _)) rfl (by decide) (by decide) (by simp) (by omega) (list_new (zs := [x - 6, y - 2, 0, z - 100])))
      go_wp2_with (go_at_call 83; (with_reducible refine hpk.out.mono ?_))
      rintro e w5 ⟨i, hi, rfl, hs5, hg5⟩
      generalize el [x - 6, y - 2, 0, z - 100] i = P
      have HR5 := Lib.hid hs5
      have HO5 := Lib.hid ((HO4.out.step (below_box _)).kept_src hbw hg5)
      have HG5 := Lib.hid (grownT HG4.out (grownT (grown_alloc _) hg5))
      have hsz := HG5.out.size
      clear hs5 hg5 HR4 HO4 HG4 hpk
      go_wp2_with (at_builtin; refine append_one _ rfl _ _ rfl rfl HO5.out hzl hsz rfl ?_)
      intro vv w6 hown6 hbel6
      go_wp2
      go_roundw
      case rel => exact ⟨k + 1, zs ++ [P], by go_num, by simp; have := HZ.out; omega, by omega, hown6, HR5.out.below hbw hbel6, grown_below HG5.out hbel6⟩
      case measure => simp [intOf]; omega
    · go_wp2_with (go_at_call 82; with_reducible refine (l01Next_any HR.out 6 (by omega) (by omega)).mono ?_)
      rintro _ w2 x rfl x0 x1 hs2 hg2
      have HR2 := Lib.hid hs2
      have HO2 := Lib.hid (HO.out.kept_src hbw hg2)
      have HG2 := Lib.hid (grownT HG.out hg2)
      clear hs2 hg2 HR HO HG
      go_wp2_with (go_at_call 82; with_reducible refine (l01Next_any HR2.out 3 (by omega) (by omega)).mono ?_)
      rintro _ w3 ⟨y, rfl, y0, y1, hs3, hg3⟩
      have HR3 := Lib.hid hs3
      have HO3 := Lib.hid (HO2.out.kept_src hbw hg3)
      have HG3 := Lib.hid (grownT HG2.out hg3)
      have hb3 := hs3.lt
      clear hs3 hg3 HR2 HO2 HG2
      have hpk := Lib.hid (l01Pick_any (n := 4) (g := w3.heap.size) (zs := [1, 1, 1 + x, -1 - y]) (w := w3.alloc (.cells #[.int .i64 1, .int .i64 1, .int .i64 (1 + x), .int .i64 (-1 - y)] 2)) (HR3.out.step (below_box _)) rfl (by decide) (by decide) (by simp) (by omega) (list_new (zs := [1, 1, 1 + x, -1 - y])))
      go_wp2_with (go_at_call 83; (with_reducible refine hpk.out.mono ?_))
      rintro e w5 ⟨i, hi, rfl, hs5, hg5⟩
      generalize el [1, 1, 1 + x, -1 - y] i = P
      have HR5 := Lib.hid hs5
      have HO5 := Lib.hid ((HO3.out.step (below_box _)).kept_src hbw hg5)
      have HG5 := Lib.hid (grownT HG3.out (grownT (grown_alloc _) hg5))
      have hsz := HG5.out.size
      clear hs5 hg5 HR3 HO3 HG3 hpk
      go_wp2_with (at_builtin; refine append_one _ rfl _ _ rfl rfl HO5.out hzl hsz rfl ?_)
      intro vv w6 hown6 hbel6
      go_wp2
      go_ret
      exact ⟨zs ++ [P], by simp, by simp; have := HZ.out; omega, vv, rfl, hown6, HR5.out.below hbw hbel6, grown_below HG5.out hbel6⟩

set_option maxHeartbeats 8000000 in
theorem l06Draw_any {lo b : Nat} {bs : List Int} {w : World} (h : Src w lo b bs) :
    Calls Try.prog 126 #[.pointer (some ⟨b, 0, none⟩)] w fun e w' => ∃ zs, RetDrawS zs lo b bs w e w' := by
  have hbw := h.lt
  have HS := Lib.hid h
  clear h
  go_enter Try.func126, Try.ntmps126
  go_wp2_with (go_at_call 82; with_reducible refine (l01Next_any HS.out 6 (by omega) (by omega)).mono ?_)
  rintro _ w0 ⟨d, rfl, d0, d1, hs0, hg0⟩
  have HS0 := Lib.hid hs0
  have HG0 := Lib.hid hg0
  have hsz0 := hg0.size
  clear hs0 hg0
  go_wp2_with (go_at_call 178; with_reducible refine (l06Valid_any HS0.out ⟨by omega, by omega⟩).mono ?_)
  rintro _ w1 ⟨zs, hz1, hz2, v, rfl, o1, hs1, hg1⟩
  obtain ⟨g, cap, rfl, g1, g2, g3, g4⟩ := o1.head (by omega)
  have HO1 := Lib.hid (o1.mono hsz0)
  have HS1 := Lib.hid hs1
  have HG1 := Lib.hid (grownT HG0.out hg1)
  clear o1 hs1 hg1
  go_wp2_with (go_at_call 82; with_reducible refine (l01Next_any HS1.out 24 (by omega) (by omega)).mono ?_)
  rintro _ w2 ⟨r, rfl, r0, r1, hs2, hg2⟩
  have HO2 := Lib.hid (HO1.out.kept_src hbw hg2)
  have HS2 := Lib.hid hs2
  have HG2 := Lib.hid (grownT HG1.out hg2)
  have hb2 := hs2.lt
  have hsz := HG2.out.size
  clear hs2 hg2 HO1 HS1 HG1
  obtain ⟨n, hn⟩ : ∃ n, zs.length = n := ⟨_, rfl⟩
  have HN := Lib.hid hn
  rw [hn] at HO2 hz1 hz2 g3 ⊢
  clear hn
  by_cases h0 : r = 0
  · subst h0
    have hzl : zs.length + 1 ≤ 1099511627776 := by have := HN.out; omega
    go_wp2_with (at_builtin; refine append_one _ rfl _ _ rfl rfl HO2.out hzl hsz rfl ?_)
    intro vv w5 hown5 hbel5
    go_wp2
    go_ret
    exact ⟨_, vv, rfl, hown5, HS2.out.below hbw hbel5, grown_below HG2.out hbel5⟩
  have h0b : (r == 0) = false := by simpa using h0
  by_cases h1 : r = 1
  · subst h1
    have hpk := Lib.hid (l01Pick_any (n := 3) (g := w2.heap.size) (zs := [1000000, 1000001, -1000000]) (w := w2.alloc (.cells #[.int .i64 1000000, .int .i64 1000001, .int .i64 (-1000000)] 2)) (HS2.out.step (below_box _)) rfl (by decide) (by decide) (by simp) (by omega) (list_new (zs := [1000000, 1000001, -1000000])))
    go_wp2_with (go_at_call 83; (with_reducible refine hpk.out.mono ?_))
    rintro e w5 ⟨i, hi, rfl, hs5, hg5⟩
    generalize el [1000000, 1000001, -1000000] i = P
    have HS5 := Lib.hid hs5
    have HO5 := Lib.hid ((HO2.out.step (below_box _)).kept_src hbw hg5)
    have HG5 := Lib.hid (grownT HG2.out (grownT (grown_alloc _) hg5))
    clear hs5 hg5 hpk
    have f2 := HO5.out.cellAt (i := 0) (by have := HN.out; omega)
    have f3 := HO5.out.frozenAt 0
    go_wp2
    go_ret
    obtain ⟨k1, k2⟩ := HO5.out.stored 0 P
    have hgl := (HO5.out.lt g rfl).1
    have kb : Below w.heap.size w5 (w5.setCell ⟨g, 0, none⟩ (.int .i64 P)) := (Below.refl _ _).grown k2 HG5.out.size (fun k hk => by injection hk with hk; omega)
    exact ⟨_, _, rfl, k1, HS5.out.below hbw kb, grown_below HG5.out kb⟩
  have h1b : (r == 1) = false := by simpa using h1
  by_cases h2 : r = 2
  · subst h2
    go_wp2_with (go_at_call 82; with_reducible refine (l01Next_any HS2.out 3 (by omega) (by omega)).mono ?_)
    rintro _ w3 ⟨d', rfl, d2, d3, hs3, hg3⟩
    have HS3 := Lib.hid hs3
    have HG3 := Lib.hid (grownT HG2.out hg3)
    have hsz3 := HG3.out.size
    clear hs3 hg3
    go_wp2_with (go_at_call 178; with_reducible refine (l06Valid_any HS3.out ⟨by omega, by omega⟩).mono ?_)
    rintro _ w4 ⟨ys, hy1, hy2, u, rfl, o4, hs4, hg4⟩
    go_wp2
    go_ret
    exact ⟨ys, u, rfl, o4.mono hsz3, hs4, grownT HG3.out hg4⟩
  have h2b : (r == 2) = false := by simpa using h2
  by_cases h3 : r = 3
  · subst h3
    go_wp2
    go_ret
    exact ⟨[], _, rfl, Own.empty hsz, HS2.out.step (below_box _), grownT HG2.out (grown_alloc _)⟩
  have h3b : (r == 3) = false := by simpa using h3
  go_wp2
  go_ret
  exact ⟨zs, _, rfl, by have := HO2.out; exact this, HS2.out, HG2.out⟩
set_option maxHeartbeats 4000000 in
theorem DrawReducePolynomial_any {bs : List Int} {v : Value} {w : World} (h : Bytes w w.heap.size v bs) :
    Calls Try.prog 53 #[v] w (RetNumL 1000000000001 w) := by
  have HBs := Lib.hid h
  clear h
  go_enter Try.func53, Try.ntmps53
  go_wp2_with (go_at_call 78; with_reducible refine (l01From_any HBs.out).mono ?_)
  rintro _ w1 ⟨b, rfl, hs1, hb1⟩
  have HS1 := Lib.hid hs1
  have HB1 := Lib.hid hb1
  have hlo := hs1.lo
  clear hs1 hb1
  go_wp2_with (go_at_call 125; with_reducible refine (l08DrawPrime_any HS1.out).mono ?_)
  rintro _ w2 ⟨p, rfl, p0, p1, hs2, hg2⟩
  have HS2 := Lib.hid hs2
  have HB2 := Lib.hid (below_grownB HB1.out hlo hg2)
  clear hs2 hg2
  go_wp2_with (go_at_call 126; with_reducible refine (l06Draw_any HS2.out).mono ?_)
  rintro _ w3 ⟨zs, v3, rfl, o3, hs3, hg3⟩
  go_wp2
  go_ret2
  exact ⟨p, zs, v3, rfl, ⟨p0, p1⟩, o3.mono HB2.out.size, below_grownB HB2.out hlo hg3⟩

end Go.Proofs.Ytlndfjplhfgicaa
