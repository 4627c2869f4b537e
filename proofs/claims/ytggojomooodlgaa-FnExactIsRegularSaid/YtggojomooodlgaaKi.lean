/- Contract: the reference's residual polynomials. -/
import Derived.Test.YtggojomooodlgaaKh
namespace Go.Proofs.Ytggojomooodlgaa
open Go.RowKit
set_option linter.unusedVariables false
set_option linter.unusedSimpArgs false

/-- Division by p, one after the other. -/
theorem quo_next {p c : Int} {y j : Nat} (hp : 2 ≤ p) (hd : c % p ^ y = 0) (hj : j < y) : (c / p ^ j).tdiv p = c / p ^ (j + 1) := by
  have h1 := pow_pos' (show 1 ≤ p by omega) j
  obtain ⟨q, hq⟩ := Int.dvd_trans (powD p (show j + 1 ≤ y by omega)) (Int.dvd_of_emod_eq_zero hd)
  have e : c / p ^ j = p * q := by rw [hq, Int.pow_succ, Int.mul_assoc, Int.mul_ediv_cancel_left _ (by omega)]
  have h2 := pow_pos' (show 1 ≤ p by omega) (j + 1)
  have e2 : c / p ^ (j + 1) = q := by conv => lhs; rw [hq]
                                      exact Int.mul_ediv_cancel_left _ (by omega)
  rw [e, e2, Int.tdiv_eq_ediv_of_dvd ⟨q, rfl⟩, Int.mul_ediv_cancel_left _ (by omega)]

set_option maxHeartbeats 8000000 in
set_option maxRecDepth 100000 in
theorem l14Residual_any {p : Int} {v : Value} {f : List Int} {i : Nat} {w : World} (h : Reads w v f) (hp : 2 ≤ p ∧ p ≤ 97) (hf : Bd 1000000 f) (hl : f.length ≤ 9) (hi : i + 1 < (polA p f).length) (hne : ptA p f ≠ []) :
    Calls Try.prog 16 #[.int .i64 p, v, .int .i64 (i : Int)] w (RetInts (resA p f i) w) := by
  have HPG := Lib.hid (fun (v : Value) (w : World) (hR : Reads w v f) => l13Polygon_any hR hp hf hl hne)
  have HSL := Lib.hid (fun (v : Value) (w : World) (hR : Reads w v f) => l13Slopes_any hR hp hf hl hne)
  obtain ⟨m, Ax, Ay, r1, r2, r3, d, hm, hsm, hi1, hm9, hga, hgs, hra, hrt, hseg, q1, q2, q3, q4, q5, ⟨q6, q7⟩, ⟨q8, q9⟩, ⟨q10, q11⟩⟩ := piece hp.1 hf hl hi
  rw [hra]
  obtain ⟨C, hC⟩ : ∃ C, polA p f = C := ⟨_, rfl⟩
  obtain ⟨SL, hSL⟩ : ∃ SL, sloA p f = SL := ⟨_, rfl⟩
  rw [hC] at HPG hm hga hi
  rw [hSL] at HSL hsm hgs
  rw [hm] at hi
  obtain ⟨a, cap, rfl, h1, h2⟩ := reads_nil_eq h
  obtain ⟨N, hN⟩ : ∃ N, f.length = N := ⟨_, rfl⟩
  rw [hN] at h h1 hl hseg ⊢
  have HN := Lib.hid hN
  have HR := Lib.hid h
  have HF := Lib.hid hf
  have HM := Lib.hid hm
  have HGA := Lib.hid hga
  have HSM := Lib.hid hsm
  have HGS := Lib.hid hgs
  have HSEG := Lib.hid hseg
  have HRT := Lib.hid hrt
  have J1 : (0 : Int) ≤ (i : Int) := by omega
  have J2 : (i : Int) < (m : Int) := by omega
  have J3 : i < m := by omega
  have J4 : (i : Int) < ((m - 1 : Nat) : Int) := by omega
  obtain ⟨m', hm'⟩ : ∃ m', m - 1 = m' := ⟨_, rfl⟩
  rw [hm'] at hi1 HSM J4
  clear h h2 hN hm hga hsm hgs hseg hrt hra hf hC hSL hm'
  go_enter Try.func16, Try.ntmps16
  go_upto_region 1 with fail
  refine wp_region_store 15 14 12 [true, true, false, true, false, true, true, true, true, true, true, true, false, true, false] [pEq (.int .i64 p), pEq (.slice a N cap), pRow2 w.heap.size m i (.int .i64 Ax) (.int .i64 Ay), pEq (.int .i64 (i : Int)), pAt2 i (.int .i64 Ax) (.int .i64 Ay), pEq (.agg #[.int .i64 Ax, .int .i64 Ay]), pEq (.int .i64 p), pEq (.slice a N cap), pRow3 w.heap.size m' i (.int .i64 r1) (.int .i64 r2) (.int .i64 r3), pEq (.int .i64 (i : Int)), pAt3 i (.int .i64 r1) (.int .i64 r2) (.int .i64 r3), pEq (.agg #[.int .i64 r1, .int .i64 r2, .int .i64 r3]), pNew w.heap.size #[.int .i64 0, .int .i64 0] 46, pNew w.heap.size #[.int .i64 0, .int .i64 0, .int .i64 0] 39] (pNew w.heap.size #[.int .i64 Ax, .int .i64 Ay] 46) (by kernel_rfl) (by kernel_rfl)
    (forall_two (pEq_st _) (forall_two (pEq_st _) (forall_two (pRow2_st _ _ _ _ _) (forall_two (pEq_st _) (forall_two (pAt2_st _ _ _) (forall_two (pEq_st _) (forall_two (pEq_st _) (forall_two (pEq_st _) (forall_two (pRow3_st _ _ _ _ _ _) (forall_two (pEq_st _) (forall_two (pAt3_st _ _ _ _) (forall_two (pEq_st _) (forall_two (pNew_st _ _ _) (forall_two (pNew_st _ _ _) forall_nil)))))))))))))) (pNew_st _ _ _) ?_ ?_ ?_
  · simp only [List.take_succ_cons, List.take_zero, List.map_cons, List.map_nil, stepsBut]
    refine ⟨?_, ?_, ?_, ?_, ?_, ?_, ?_, ?_, ?_, ?_, ?_, ?_, ?_, ?_, ?_, trivial⟩
    all_goals first | exact trivial | skip
    all_goals
      rw [if_neg (by decide)]
      intro X w' K hb hd hK
      simp only [puts] at hK ⊢
    · clear hd
      simp [go_sem] at hK
      constructor
      go_simp
      have hq : pEq (.int .i64 p) (.int .i64 p) w' := rfl
      have hq2 := hK _ _ (Below.refl _ _) hq
      exact hq2
    · clear hd
      simp [go_sem] at hK
      constructor
      go_simp
      have hq : pEq (.slice a N cap) (.slice a N cap) w' := rfl
      have hq2 := hK _ _ (Below.refl _ _) hq
      exact hq2
    · have e0 : X 0 = .int .i64 p := hd 0 (by kernel_rfl)
      have e1 : X 1 = .slice a N cap := hd 1 (by kernel_rfl)
      clear hd
      simp [go_sem, e0, e1] at hK
      constructor
      go_simp
      refine (HPG.out _ _ (HR.out.step hb)).mono ?_
      rintro e5 w5 ⟨v5, rfl, o5, b5⟩
      obtain ⟨a5, c5, rfl, k5, q5'⟩ := OwnC.open o5
      rw [HM.out] at o5 k5 q5' ⊢
      obtain ⟨g5, rfl, g51, g52⟩ := q5' i J3
      obtain ⟨x1, x2⟩ := o5.at (i := i) (by rw [HM.out]; exact J3)
      rw [HGA.out] at x1 x2
      clear o5 q5'
      go_simp
      have hs := hb.size
      have hq : pRow2 w.heap.size m i (.int .i64 Ax) (.int .i64 Ay) (.slice (some ⟨g5, 0, none⟩) m c5) w5 := ⟨g5, c5, rfl, g51, by omega, x1, x2⟩
      have hq2 := hK _ _ b5 hq
      exact hq2
    · clear hd
      simp [go_sem] at hK
      constructor
      go_simp
      have hq : pEq (.int .i64 (i : Int)) (.int .i64 (i : Int)) w' := rfl
      have hq2 := hK _ _ (Below.refl _ _) hq
      exact hq2
    · have hr : pRow2 w.heap.size m i (.int .i64 Ax) (.int .i64 Ay) (X 2) w' := hd 2 (by kernel_rfl)
      refine Exists.elim hr fun g hr => Exists.elim hr fun c hr => ?_
      have e2 := hr.1
      have h1 := hr.2.1
      have h2 := hr.2.2.2.1
      have h3 := hr.2.2.2.2
      clear hr
      have e3 : X 3 = .int .i64 (i : Int) := hd 3 (by kernel_rfl)
      clear hd
      simp [go_sem, e2, e3] at hK
      constructor
      go_simp
      have hq : pAt2 i (.int .i64 Ax) (.int .i64 Ay) (.pointer (some ⟨g, i * 2, none⟩)) w' := ⟨g, rfl, h1, h2, h3⟩
      have hq2 := hK _ _ (Below.refl _ _) hq
      exact hq2
    · have hr : pAt2 i (.int .i64 Ax) (.int .i64 Ay) (X 4) w' := hd 4 (by kernel_rfl)
      refine Exists.elim hr fun g hr => ?_
      have e2 := hr.1
      have h1 := hr.2.1
      have h2 := hr.2.2.1
      have h3 := hr.2.2.2
      clear hr
      clear hd
      simp [go_sem, e2] at hK
      constructor
      go_simp
      have hq : pEq (.agg #[.int .i64 Ax, .int .i64 Ay]) (.agg #[.int .i64 Ax, .int .i64 Ay]) w' := rfl
      have hq2 := hK _ _ (Below.refl _ _) hq
      exact hq2
    · clear hd
      simp [go_sem] at hK
      constructor
      go_simp
      have hq : pEq (.int .i64 p) (.int .i64 p) w' := rfl
      have hq2 := hK _ _ (Below.refl _ _) hq
      exact hq2
    · clear hd
      simp [go_sem] at hK
      constructor
      go_simp
      have hq : pEq (.slice a N cap) (.slice a N cap) w' := rfl
      have hq2 := hK _ _ (Below.refl _ _) hq
      exact hq2
    · have e0 : X 6 = .int .i64 p := hd 6 (by kernel_rfl)
      have e1 : X 7 = .slice a N cap := hd 7 (by kernel_rfl)
      clear hd
      simp [go_sem, e0, e1] at hK
      constructor
      go_simp
      refine (HSL.out _ _ (HR.out.step hb)).mono ?_
      rintro e6 w6 ⟨v6, rfl, o6, b6⟩
      obtain ⟨a6, c6, rfl, k6, q6'⟩ := OwnS.open o6
      rw [HSM.out] at o6 k6 q6' ⊢
      obtain ⟨g6, rfl, g61, g62⟩ := q6' i hi1
      obtain ⟨z1, z2, z3⟩ := o6.atO HGS.out
      clear o6 q6'
      go_simp
      have hs := hb.size
      have hq : pRow3 w.heap.size m' i (.int .i64 r1) (.int .i64 r2) (.int .i64 r3) (.slice (some ⟨g6, 0, none⟩) m' c6) w6 := ⟨g6, c6, rfl, g61, by omega, z1, z2, z3⟩
      have hq2 := hK _ _ b6 hq
      exact hq2
    · clear hd
      simp [go_sem] at hK
      constructor
      go_simp
      have hq : pEq (.int .i64 (i : Int)) (.int .i64 (i : Int)) w' := rfl
      have hq2 := hK _ _ (Below.refl _ _) hq
      exact hq2
    · have hr : pRow3 w.heap.size m' i (.int .i64 r1) (.int .i64 r2) (.int .i64 r3) (X 8) w' := hd 8 (by kernel_rfl)
      refine Exists.elim hr fun g hr => Exists.elim hr fun c hr => ?_
      have e2 := hr.1
      have h1 := hr.2.1
      have h2 := hr.2.2.2.1
      have h3 := hr.2.2.2.2.1
      have h4 := hr.2.2.2.2.2
      clear hr
      have e3 : X 9 = .int .i64 (i : Int) := hd 9 (by kernel_rfl)
      clear hd
      simp [go_sem, e2, e3] at hK
      constructor
      go_simp
      have hq : pAt3 i (.int .i64 r1) (.int .i64 r2) (.int .i64 r3) (.pointer (some ⟨g, i * 3, none⟩)) w' := ⟨g, rfl, h1, h2, h3, h4⟩
      have hq2 := hK _ _ (Below.refl _ _) hq
      exact hq2
    · have hr : pAt3 i (.int .i64 r1) (.int .i64 r2) (.int .i64 r3) (X 10) w' := hd 10 (by kernel_rfl)
      refine Exists.elim hr fun g hr => ?_
      have e2 := hr.1
      have h1 := hr.2.1
      have h2 := hr.2.2.1
      have h3 := hr.2.2.2.1
      have h4 := hr.2.2.2.2
      clear hr
      clear hd
      simp [go_sem, e2] at hK
      constructor
      go_simp
      have hq : pEq (.agg #[.int .i64 r1, .int .i64 r2, .int .i64 r3]) (.agg #[.int .i64 r1, .int .i64 r2, .int .i64 r3]) w' := rfl
      have hq2 := hK _ _ (Below.refl _ _) hq
      exact hq2
    · clear hd
      simp [go_sem] at hK
      constructor
      go_simp
      have hq : pNew w.heap.size #[.int .i64 0, .int .i64 0] 46 (.pointer (some ⟨w'.heap.size, 0, none⟩)) (w'.alloc (.cells #[.int .i64 0, .int .i64 0] 46)) := ⟨w'.heap.size, rfl, hb.size, by simp, (by show (w'.heap.push _)[w'.heap.size]? = _; simp)⟩
      have hq2 := hK _ _ (below_box _) hq
      exact hq2
    · clear hd
      simp [go_sem] at hK
      constructor
      go_simp
      have hq : pNew w.heap.size #[.int .i64 0, .int .i64 0, .int .i64 0] 39 (.pointer (some ⟨w'.heap.size, 0, none⟩)) (w'.alloc (.cells #[.int .i64 0, .int .i64 0, .int .i64 0] 39)) := ⟨w'.heap.size, rfl, hb.size, by simp, (by show (w'.heap.push _)[w'.heap.size]? = _; simp)⟩
      have hq2 := hK _ _ (below_box _) hq
      exact hq2
  · intro X w' K hb hd hK o ho
    cases ho
    have hr : pNew w.heap.size #[.int .i64 0, .int .i64 0] 46 (X 12) w' := hd 12 (by kernel_rfl)
    refine Exists.elim hr fun b hr => ?_
    have e1 := hr.1
    have h1 := hr.2.1
    have h2 := hr.2.2.1
    have h3 := hr.2.2.2
    clear hr
    have e5 : X 5 = .agg #[.int .i64 Ax, .int .i64 Ay] := hd 5 (by kernel_rfl)
    clear hd
    simp only [List.take_succ_cons, List.take_zero, List.map_cons, List.map_nil, puts] at hK ⊢
    simp [go_sem, e1, e5] at hK
    have y1 := (heap_cells h3 0).1
    have y2 := (heap_cells h3 0).2
    have y3 := (heap_cells h3 1).1
    have y4 := (heap_cells h3 1).2
    simp at y1 y3
    have H3 := Lib.hid h3
    clear h3
    constructor
    go_simp
    refine hK _ (hb.trans (below_two (by omega))) ?_ ⟨b, rfl, h1, by simpa [World.setCell] using h2, heap_two H3.out⟩
    exact keep_cons (fun _ _ h => h) (keep_cons (fun _ _ h => h) (keep_cons (fun h => by cases h) (keep_cons (fun _ _ h => h) (keep_cons (fun h => by cases h) (keep_cons (fun _ _ h => h) (keep_cons (fun _ _ h => h) (keep_cons (fun _ _ h => h) (keep_cons (fun _ _ h => keep_row3 H3.out h) (keep_cons (fun _ _ h => h) (keep_cons (fun _ _ h => keep_at3 H3.out h) (keep_cons (fun _ _ h => h) (keep_cons (fun h => by cases h) (keep_cons (fun _ _ h => keep_new3 H3.out h) keep_nil)))))))))))))
  · intro X w' hb hd hσ
    have hr : pNew w.heap.size #[.int .i64 0, .int .i64 0, .int .i64 0] 39 (X 13) w' := hd 13 (by omega) (by kernel_rfl)
    have e11 : X 11 = .agg #[.int .i64 r1, .int .i64 r2, .int .i64 r3] := hd 11 (by omega) (by kernel_rfl)
    clear hd
    obtain ⟨pb, e13, h1, h2, h3⟩ := hr
    obtain ⟨pa, e12, g1, g2, g3⟩ := hσ
    have y1 := (heap_cells h3 0).1
    have y2 := (heap_cells h3 0).2
    have y3 := (heap_cells h3 1).1
    have y4 := (heap_cells h3 1).2
    have y5 := (heap_cells h3 2).1
    have y6 := (heap_cells h3 2).2
    simp at y1 y3 y5
    have HB := Lib.hid hb
    have H3 := Lib.hid h3
    have G3 := Lib.hid g3
    clear h3 g3 hb
    have hne : pa ≠ pb := by
      rintro rfl
      have := H3.out
      rw [G3.out] at this
      simp at this
    have hcb := Lib.hid (heap_three (x := .int .i64 r1) (y := .int .i64 r2) (q := .int .i64 r3) H3.out)
    have hca := Lib.hid (((Below.heap_setCell ((w'.setCell ⟨pb, 0, none⟩ (.int .i64 r1)).setCell ⟨pb, 1, none⟩ (.int .i64 r2)) ⟨pb, 2, none⟩ (.int .i64 r3) pa hne).trans ((Below.heap_setCell (w'.setCell ⟨pb, 0, none⟩ (.int .i64 r1)) ⟨pb, 1, none⟩ (.int .i64 r2) pa hne).trans (Below.heap_setCell w' ⟨pb, 0, none⟩ (.int .i64 r1) pa hne))).trans G3.out)
    have hbl := Lib.hid (((HB.out.setCell (p := ⟨pb, 0, none⟩) h1 (.int .i64 r1)).setCell (p := ⟨pb, 1, none⟩) h1 (.int .i64 r2)).setCell (p := ⟨pb, 2, none⟩) h1 (.int .i64 r3))
    have hlb : pb < (((w'.setCell ⟨pb, 0, none⟩ (.int .i64 r1)).setCell ⟨pb, 1, none⟩ (.int .i64 r2)).setCell ⟨pb, 2, none⟩ (.int .i64 r3)).heap.size := by simpa [World.setCell] using h2
    have hla : pa < (((w'.setCell ⟨pb, 0, none⟩ (.int .i64 r1)).setCell ⟨pb, 1, none⟩ (.int .i64 r2)).setCell ⟨pb, 2, none⟩ (.int .i64 r3)).heap.size := by simpa [World.setCell] using g2
    have HWS := Lib.hid (show (((w'.setCell ⟨pb, 0, none⟩ (.int .i64 r1)).setCell ⟨pb, 1, none⟩ (.int .i64 r2)).setCell ⟨pb, 2, none⟩ (.int .i64 r3)).heap.size = w'.heap.size by simp [World.setCell])
    have hdv : r3.tdiv r2 = (d : Int) := by rw [← q1]; exact Int.mul_tdiv_cancel_left _ (by omega)
    have hdr : r3 / r2 = (d : Int) := by rw [← q1]; exact Int.mul_ediv_cancel_left _ (by omega)
    constructor
    simp only [List.take_succ_cons, List.take_zero, List.map_cons, List.map_nil, List.drop_succ_cons, List.drop_zero, puts]
    go_wp2
    generalize (((w'.setCell ⟨pb, 0, none⟩ (.int .i64 r1)).setCell ⟨pb, 1, none⟩ (.int .i64 r2)).setCell ⟨pb, 2, none⟩ (.int .i64 r3)) = wl at *
    clear y1 y2 y3 y4 y5 y6 H3 G3 h2 g2 HB hne
    have hd9 : d ≤ 9 := q4
    go_loopw [9, 10] (fun l c wr => ∃ k : Nat, c = .int .i64 (k : Int) ∧ k ≤ d + 1 ∧ Own wr wl.heap.size l (resN p f (Ax, Ay) (r1, r2, r3) k) ∧ Below wl.heap.size wl wr) (fun _ c _ => d + 1 - (intOf c).toNat)
    case atStart => exact ⟨0, rfl, by omega, by rw [← HWS.out]; exact own_empty (Nat.le_refl _), below_box _⟩
    case round =>
      obtain ⟨k, rfl, hk, hown, hbel⟩ := hrel
      have HO := Lib.hid hown
      have HW := Lib.hid hbel
      have hsw := hbel.size
      clear hown hbel
      have y1 := ((HW.out.cell (p := ⟨pb, 1, none⟩) hlb).trans (heap_cells hcb.out 1).1)
      have y2 := ((HW.out.cell (p := ⟨pb, 2, none⟩) hlb).trans (heap_cells hcb.out 2).1)
      have y0 := ((HW.out.cell (p := ⟨pb, 0, none⟩) hlb).trans (heap_cells hcb.out 0).1)
      have z0 := ((HW.out.cell (p := ⟨pa, 0, none⟩) hla).trans (heap_cells hca.out 0).1)
      have z1 := ((HW.out.cell (p := ⟨pa, 1, none⟩) hla).trans (heap_cells hca.out 1).1)
      simp at y0 y1 y2 z0 z1
      have hlb' : pb < wr.heap.size := by omega
      have hla' : pa < wr.heap.size := by omega
      have HR1 := Lib.hid ((HR.out.step hbl.out).step HW.out)
      have kb := Int.mul_nonneg (show 0 ≤ (k : Int) by omega) (show 0 ≤ r2 by omega)
      have q12 : r2 ≤ 9 := by
        have := Int.mul_le_mul_of_nonneg_left (show (1 : Int) ≤ d by omega) (show 0 ≤ r2 by omega)
        omega
      have kb2 := Int.mul_le_mul (show (k : Int) ≤ 10 by omega) q12 (by omega) (by omega)
      have W1 : IntKind.i64.wrap ((k : Int) * r2) = (k : Int) * r2 := IntWalk.i64_in _ (by omega)
      by_cases hlt : k ≤ d
      · have hle : (k : Int) ≤ (d : Int) := by omega
        obtain ⟨t1, t2, t3, t4, t5⟩ := HSEG.out k hlt
        have kb3 := mul_bd9 (x := r1) (y := (k : Int)) ⟨q10, q11⟩ ⟨by omega, by omega⟩
        rw [Int.mul_comm] at kb3
        have W2 : IntKind.i64.wrap ((k : Int) * r1) = (k : Int) * r1 := IntWalk.i64_in _ (by omega)
        obtain ⟨ix, hix⟩ : ∃ ix : Nat, (ix : Int) = Ax + (k : Int) * r2 := ⟨(Ax + (k : Int) * r2).toNat, by omega⟩
        obtain ⟨iy, hiy⟩ : ∃ iy : Nat, (iy : Int) = Ay + (k : Int) * r1 := ⟨(Ay + (k : Int) * r1).toNat, by omega⟩
        have hn := resN_next p f (Ax, Ay) (r1, r2, r3) k
        simp only at hn
        rw [← hix, ← hiy, Int.toNat_natCast, Int.toNat_natCast] at hn
        have HNX := Lib.hid hn
        have t6 : p ^ iy ≤ 1000000 := by rw [← hiy, Int.toNat_natCast] at t5; exact t5
        have t7 : 1 ≤ p ^ iy := pow_pos' (show 1 ≤ p by omega) iy
        have hixN : ix < N := by omega
        have hixM : (ix : Int) < (N : Int) := by omega
        have hix0 : (0 : Int) ≤ (ix : Int) := by omega
        have hiy0 : (0 : Int) ≤ (iy : Int) := by omega
        have hiy1 : (iy : Int) ≤ 1000000 := by omega
        obtain ⟨b1, o1, rfl, hc⟩ := HR1.out.at (k := ix) (by rw [HN.out]; exact hixN)
        have hbs := HR1.out.lt (by rw [HN.out]; omega)
        have hb := HF.out ix
        have T1 := hix.symm
        have T2 := hiy.symm
        have hq0 : ¬ p ^ iy = 0 := by omega
        have hL : (resN p f (Ax, Ay) (r1, r2, r3) k).length + 1 ≤ 1099511627776 := by rw [resN_len]; omega
        clear hix hiy t1 t2 t3 t4 t5 hn
        generalize el f ix = c at *
        by_cases hz0 : c = 0
        · subst hz0
          have HNX := Lib.hid (show resN p f (Ax, Ay) (r1, r2, r3) (k + 1) = resN p f (Ax, Ay) (r1, r2, r3) k ++ [0] by rw [HNX.out, cellR_zero])
          go_wp2_with (at_builtin; refine append_one _ rfl _ _ rfl rfl HO.out hL hsw rfl ?_)
          intro vv w5 hown5 hbel5
          rw [← HNX.out] at hown5
          have HO5 := Lib.hid hown5
          have HW5 := Lib.hid (HW.out.trans hbel5)
          clear hown5 hbel5
          go_wp2
          go_roundw
          case rel => exact ⟨k + 1, by go_num, by omega, HO5.out, HW5.out⟩
          case measure => simp [intOf]; omega
        · have HZ := Lib.hid hz0
          have hz' : (c != 0) = true := by simpa using hz0
          have hR := cellR_ref hp.1 hz0 iy
          by_cases hv : (vp p c : Int) = iy
          · rw [if_pos hv] at hR
            have HCR := Lib.hid hR
            have hdv2 : c % p ^ iy = 0 := by
              have hvn : vp p c = iy := by omega
              rw [← hvn]
              exact Int.emod_eq_zero_of_dvd ⟨c / p ^ vp p c, by rw [Int.mul_comm]; exact (vp_spec hp.1 hz0).1⟩
            have HQ := Lib.hid (fun (j : Nat) (hj : j < iy) => quo_next hp.1 hdv2 hj)
            clear hz0 hR hdv2
            go_wp2_with ((go_at_call 28; ((with_reducible refine (l01Valuation_any _ _ _ HZ.out (by omega) (by omega) hp.1 (by omega)).mono ?_); rintro e w' ⟨rfl, rfl⟩)))
            go_loopw [11, 14] (fun x e wr2 => ∃ j : Nat, x = .int .i64 (c / p ^ j) ∧ e = .int .i64 (j : Int) ∧ j ≤ iy ∧ wr2 = wr) (fun _ e _ => iy - (intOf e).toNat)
            case atStart => exact ⟨0, by simp, rfl, by omega, rfl⟩
            case round =>
              obtain ⟨j, rfl, rfl, hj, rfl⟩ := hrel
              have hpj := pow_pos' (show 1 ≤ p by omega) j
              have hcd := quo_le (n := c) hpj
              by_cases hji : j < iy
              · have hq := HQ.out j hji
                have hpj2 := pow_pos' (show 1 ≤ p by omega) (j + 1)
                have hcd2 := quo_le (n := c) hpj2
                go_wp2
                go_roundw
                case rel => exact ⟨j + 1, rfl, by go_num, by omega, trivial⟩
                case measure => simp [intOf]; omega
              · obtain rfl : j = iy := by omega
                go_wp2_with (first | (go_at_call 29; ((with_reducible refine (calls_int (l01Mod_any _ _ _ (by omega) (by omega)) HCR.out.symm).mono ?_); rintro e w' ⟨rfl, rfl⟩)) | (at_builtin; refine append_one _ rfl _ _ rfl rfl HO.out hL hsw rfl ?_))
                intro vv w5 hown5 hbel5
                rw [← HNX.out] at hown5
                have HO5 := Lib.hid hown5
                have HW5 := Lib.hid (HW.out.trans hbel5)
                clear hown5 hbel5
                go_wp2
                go_roundw
                case rel => exact ⟨k + 1, by go_num, by omega, HO5.out, HW5.out⟩
                case measure => simp [intOf]; omega
          · rw [if_neg hv] at hR
            have HNX := Lib.hid (show resN p f (Ax, Ay) (r1, r2, r3) (k + 1) = resN p f (Ax, Ay) (r1, r2, r3) k ++ [0] by rw [HNX.out, hR])
            clear hz0 hR
            go_wp2_with (first | (go_at_call 28; ((with_reducible refine (l01Valuation_any _ _ _ HZ.out (by omega) (by omega) hp.1 (by omega)).mono ?_); rintro e w' ⟨rfl, rfl⟩)) | (at_builtin; refine append_one _ rfl _ _ rfl rfl HO.out hL hsw rfl ?_))
            intro vv w5 hown5 hbel5
            rw [← HNX.out] at hown5
            have HO5 := Lib.hid hown5
            have HW5 := Lib.hid (HW.out.trans hbel5)
            clear hown5 hbel5
            go_wp2
            go_roundw
            case rel => exact ⟨k + 1, by go_num, by omega, HO5.out, HW5.out⟩
            case measure => simp [intOf]; omega
      · have hkd : k = d + 1 := by omega
        have hgt : ¬ ((k : Int) ≤ (d : Int)) := by omega
        have HKD := Lib.hid hkd
        clear hkd
        go_wp2
        go_ret
        refine ⟨_, rfl, ?_, hbl.out.trans (HW.out.mono hbl.out.size)⟩
        have o9 := HO.out
        rw [HKD.out] at o9
        exact o9.mono hbl.out.size

end Go.Proofs.Ytggojomooodlgaa
