/- Contract: the program's corners. -/
import Derived.Test.YtggojomooodlgaaKd
namespace Go.Proofs.Ytggojomooodlgaa
open Go.RowKit
set_option linter.unusedVariables false
set_option linter.unusedSimpArgs false

theorem OwnC.cutA {w : World} {lo n0 n cap : Nat} {a : Option Addr} {L : List (Int × Int)} (h : OwnC w lo (.slice a n0 cap) L) (hn : n ≤ n0) : OwnC w lo (.slice a n cap) (L.take n) := by
  rcases h.2 with ⟨h', h2⟩ | ⟨g', cap', cur, h', hr⟩
  · injection h' with e1 e2 e3
    subst e1 e2 e3
    obtain rfl : n = 0 := by omega
    rw [List.take_zero]; exact RowOwn.nil
  · injection h' with e1 e2 e3
    subst e1
    exact RowOwn.cut h cC_len hn

theorem two_new (w : World) (x1 y1 x2 y2 : Value) (t : TypeId) : Below w.heap.size w ((w.alloc (.cells #[x1, y1] t)).alloc (.cells #[x2, y2] t)).drew ∧ w.heap.size + 2 = ((w.alloc (.cells #[x1, y1] t)).alloc (.cells #[x2, y2] t)).drew.heap.size ∧
    ((w.alloc (.cells #[x1, y1] t)).alloc (.cells #[x2, y2] t)).drew.cell? ⟨w.heap.size, 0, none⟩ = some x1 ∧ ((w.alloc (.cells #[x1, y1] t)).alloc (.cells #[x2, y2] t)).drew.cell? ⟨w.heap.size, 1, none⟩ = some y1 ∧
    ((w.alloc (.cells #[x1, y1] t)).alloc (.cells #[x2, y2] t)).drew.cell? ⟨w.heap.size + 1, 0, none⟩ = some x2 ∧ ((w.alloc (.cells #[x1, y1] t)).alloc (.cells #[x2, y2] t)).drew.cell? ⟨w.heap.size + 1, 1, none⟩ = some y2 := by
  have h1 : Below (w.alloc (.cells #[x1, y1] t)).heap.size (w.alloc (.cells #[x1, y1] t)) ((w.alloc (.cells #[x1, y1] t)).alloc (.cells #[x2, y2] t)).drew := ((Below.refl _ _).alloc (Nat.le_refl _) _).drew
  have c1 : (w.alloc (.cells #[x1, y1] t)).cell? ⟨w.heap.size, 0, none⟩ = some x1 := by simp
  have c2 : (w.alloc (.cells #[x1, y1] t)).cell? ⟨w.heap.size, 1, none⟩ = some y1 := by simp
  refine ⟨(below_box (.cells #[x1, y1] t)).trans (h1.mono (by simp)), by simp, ?_, ?_, ?_, ?_⟩
  · exact (h1.cell (p := ⟨w.heap.size, 0, none⟩) (by simp)).trans c1
  · exact (h1.cell (p := ⟨w.heap.size, 1, none⟩) (by simp)).trans c2
  · simp
  · simp
theorem mul_bd9 {x y : Int} (hx : -1000000 ≤ x ∧ x ≤ 1000000) (hy : -9 ≤ y ∧ y ≤ 9) : -9000000 ≤ x * y ∧ x * y ≤ 9000000 := by
  have h : y = -9 ∨ y = -8 ∨ y = -7 ∨ y = -6 ∨ y = -5 ∨ y = -4 ∨ y = -3 ∨ y = -2 ∨ y = -1 ∨ y = 0 ∨ y = 1 ∨ y = 2 ∨ y = 3 ∨ y = 4 ∨ y = 5 ∨ y = 6 ∨ y = 7 ∨ y = 8 ∨ y = 9 := by omega
  rcases h with h | h | h | h | h | h | h | h | h | h | h | h | h | h | h | h | h | h | h <;> subst h <;> omega

set_option maxHeartbeats 8000000 in
set_option maxRecDepth 100000 in
theorem polygon_any {p : Int} {v : Value} {f : List Int} {w : World} (h : Reads w v f) (hp : 2 ≤ p ∧ p ≤ 97) (hf : Bd 1000000 f) (hl : f.length ≤ 9) :
    Calls Try.prog 32 #[.int .i64 p, v] w (RetC (polA p f) w) := by
  have HR := Lib.hid h
  have HF := Lib.hid hf
  have hml := ptsL_len p f f.length
  have hbd : ∀ i, i < (ptA p f).length → 0 ≤ (ptG (ptA p f) i).1 ∧ (ptG (ptA p f) i).1 ≤ 9 ∧ 0 ≤ (ptG (ptA p f) i).2 ∧ (ptG (ptA p f) i).2 ≤ 1000000 := fun i hi => by
    have h1 := ptsL_ok p f f.length _ (ptG_mem (P := ptA p f) hi)
    have h2 := h1.bd hp.1 hf
    exact ⟨h1.1, by have := h1.2.1; omega, h2.1, h2.2.1⟩
  have hpol : polA p f = graG (ptG (ptA p f)) (ptA p f).length := rfl
  rw [hpol]
  have HPT := Lib.hid (fun (v : Value) (w : World) (hR : Reads w v f) => points_any hR hp hf hl)
  change (ptA p f).length ≤ _ at hml
  clear h hf hpol
  obtain ⟨P, hP⟩ : ∃ P, ptA p f = P := ⟨_, rfl⟩
  rw [hP] at hml hbd HPT ⊢
  obtain ⟨m, hm⟩ : ∃ m, P.length = m := ⟨_, rfl⟩
  rw [hm] at hml hbd ⊢
  have HBD := Lib.hid hbd
  have HM := Lib.hid hm
  clear hbd hm hP
  go_enter Try.func32, Try.ntmps32
  go_wp2_with (go_at_call 47; with_reducible refine (HPT.out _ _ HR.out).mono ?_)
  rintro _ w1 ⟨v1, rfl, o1, hb1⟩
  obtain ⟨a1, c1, rfl, k1, k2⟩ := OwnC.open o1
  rw [HM.out] at o1 k1 k2 ⊢
  have HO1 := Lib.hid o1
  have HK2 := Lib.hid k2
  have HB1 := Lib.hid hb1
  have hs1 := hb1.size
  clear o1 k2 hb1
  go_wp2
  go_loopw [5, 15] (fun l c wr => ∃ i : Nat, c = .int .i64 (i : Int) ∧ i ≤ m ∧ OwnC wr w1.heap.size l (graG (ptG P) i) ∧ Below w1.heap.size w1 wr) (fun _ c _ => m - (intOf c).toNat)
  case atStart => exact ⟨0, rfl, by omega, RowOwn.nil, Below.refl _ _⟩
  case round =>
    obtain ⟨i, rfl, hi, hown, hbel⟩ := hrel
    have HW := Lib.hid hbel
    have hsw := hbel.size
    have HOP := Lib.hid (HO1.out.step hbel)
    clear hbel
    by_cases hlt : i < m
    · obtain ⟨g1, rfl, hg1, hg2⟩ := HK2.out i hlt
      obtain ⟨x1, x2⟩ := HOP.out.at (i := i) (by rw [HM.out]; exact hlt)
      obtain ⟨b1, b2, b3, b4⟩ := HBD.out i hlt
      have HG := Lib.hid (show graG (ptG P) (i + 1) = popL (graG (ptG P) i) (ptG P i) ++ [ptG P i] from rfl)
      have hgl := graG_len (ptG P) i
      have HLB := Lib.hid (show ∀ k, k < (graG (ptG P) i).length → 0 ≤ (ptG (graG (ptG P) i) k).1 ∧ (ptG (graG (ptG P) i) k).1 ≤ 9 ∧ 0 ≤ (ptG (graG (ptG P) i) k).2 ∧ (ptG (graG (ptG P) i) k).2 ≤ 1000000 from fun k hk => by
        obtain ⟨j, hj, e⟩ := graG_mem (ptG P) i _ (ptG_mem hk)
        rw [e]; exact HBD.out j (by omega))
      obtain ⟨L, hL⟩ : ∃ L, graG (ptG P) i = L := ⟨_, rfl⟩
      rw [hL] at hown HG hgl HLB
      obtain ⟨⟨X, Y⟩, hC⟩ : ∃ C, ptG P i = C := ⟨_, rfl⟩
      simp only [hC] at x1 x2 b1 b2 b3 b4 HG
      obtain ⟨a2, c2, rfl, q1, q2⟩ := OwnC.open hown
      obtain ⟨n0, hn0⟩ : ∃ n0, L.length = n0 := ⟨_, rfl⟩
      rw [hn0] at hown hgl q1 q2 HLB ⊢
      have HO := Lib.hid hown
      have HQ := Lib.hid q2
      have HN0 := Lib.hid hn0
      clear hL hC hn0 hown q2
      have hba : Below wr.heap.size wr (wr.alloc (.cells #[.int .i64 X, .int .i64 Y] 46)) := below_box _
      have HOA := Lib.hid (HO.out.step hba)
      have HWA := Lib.hid (HW.out.trans (hba.mono hsw))
      have y1 : (wr.alloc (.cells #[.int .i64 X, .int .i64 Y] 46)).cell? ⟨wr.heap.size, 0, none⟩ = some (.int .i64 X) := by simp
      have y2 : (wr.alloc (.cells #[.int .i64 X, .int .i64 Y] 46)).cell? ⟨wr.heap.size, 1, none⟩ = some (.int .i64 Y) := by simp
      have hsa : wr.heap.size < (wr.alloc (.cells #[.int .i64 X, .int .i64 Y] 46)).heap.size := by simp
      clear hba
      go_wp2
      generalize (wr.alloc (.cells #[.int .i64 X, .int .i64 Y] 46)) = wa at *
      generalize wr.heap.size = b0 at *
      go_loopw [5, 8] (fun l c wr2 => ∃ n : Nat, c = .int .i64 (n : Int) ∧ n ≤ n0 ∧ l = .slice a2 n c2 ∧ popL (L.take n) (X, Y) = popL L (X, Y) ∧ Below wa.heap.size wa wr2) (fun _ c _ => (intOf c).toNat)
      case atStart => exact ⟨n0, rfl, by omega, rfl, by rw [List.take_of_length_le (by rw [HN0.out]; exact Nat.le_refl _)], Below.refl _ _⟩
      case round =>
        obtain ⟨n, rfl, hn, rfl, hpop, hbel⟩ := hrel
        have z1 := (hbel.cell (p := ⟨b0, 0, none⟩) hsa).trans y1
        have z2 := (hbel.cell (p := ⟨b0, 1, none⟩) hsa).trans y2
        have HW2 := Lib.hid hbel
        have hs2 := hbel.size
        have HO2 := Lib.hid (HOA.out.step hbel)
        clear hbel
        by_cases h2 : 2 ≤ n
        · obtain ⟨k, hk2⟩ : ∃ k, n = k + 2 := ⟨n - 2, by omega⟩
          obtain ⟨k', hk1⟩ : ∃ k', k' = k + 1 := ⟨_, rfl⟩
          obtain ⟨g, rfl, hg3, hg4⟩ := HQ.out k (by omega)
          obtain ⟨e1, e2⟩ := HO2.out.at (i := k) (by rw [HN0.out]; omega)
          obtain ⟨e3, e4⟩ := HO2.out.at (i := k') (by rw [HN0.out]; omega)
          obtain ⟨u1, u2, u3, u4⟩ := HLB.out k (by omega)
          obtain ⟨v1, v2, v3, v4⟩ := HLB.out k' (by omega)
          have hgk := ptG_get (P := L) (i := k) (by rw [HN0.out]; omega)
          have hgk1 := ptG_get (P := L) (i := k') (by rw [HN0.out]; omega)
          generalize ptG L k = A at *
          generalize ptG L k' = B at *
          obtain ⟨Ax, Ay⟩ := A
          obtain ⟨Bx, By⟩ := B
          simp only at e1 e2 e3 e4 u1 u2 u3 u4 v1 v2 v3 v4
          have hgb : g < wr.heap.size := by omega
          have W1 : IntKind.i64.wrap ((n : Int) - 2) = (k : Int) := by rw [IntWalk.i64_in _ (by omega)]; omega
          have W2 : IntKind.i64.wrap ((n : Int) - 1) = (k' : Int) := by rw [IntWalk.i64_in _ (by omega)]; omega
          have J1 : (0 : Int) ≤ (k : Int) := by omega
          have J2 : (k : Int) < (n : Int) := by omega
          have J3 : (0 : Int) ≤ (k' : Int) := by omega
          have J4 : (k' : Int) < (n : Int) := by omega
          have J5 : k < n := by omega
          have J6 : k' < n := by omega
          have HK := Lib.hid hk2
          have HK1 := Lib.hid hk1
          have HT1 := Lib.hid (show TL (Ax, Ay) (Bx, By) (X, Y) → popL (L.take k') (X, Y) = popL L (X, Y) from fun ht => by
            subst hk1 hk2
            rw [← hpop, popL_pop (by rw [HN0.out]; omega) (by rw [← hgk, ← hgk1]; exact ht)])
          have HT2 := Lib.hid (show ¬ TL (Ax, Ay) (Bx, By) (X, Y) → L.take n = popL L (X, Y) from fun ht => by
            subst hk1 hk2
            rw [← hpop, popL_stay (by rw [HN0.out]; omega) (by rw [← hgk, ← hgk1]; exact ht)])
          clear hgk hgk1 hpop hk2 hk1
          go_wp2
          go_region_held3 (fun w' => w'.cell? ⟨g, k * 2, none⟩ = some (.int .i64 Ax) ∧ w'.cell? ⟨g, k * 2 + 1, none⟩ = some (.int .i64 Ay) ∧ w'.cell? ⟨g, k' * 2, none⟩ = some (.int .i64 Bx) ∧ w'.cell? ⟨g, k' * 2 + 1, none⟩ = some (.int .i64 By)) (go_keep) (fail)
          all_goals
            obtain ⟨n1, n2, n3, n4, n5, n6⟩ := two_new wr (.int .i64 Ax) (.int .i64 Ay) (.int .i64 Bx) (.int .i64 By) 46
            obtain ⟨o1, o2, o3, o4, o5, o6⟩ := two_new wr (.int .i64 Bx) (.int .i64 By) (.int .i64 Ax) (.int .i64 Ay) 46
            have n7 := (n1.cell (p := ⟨b0, 0, none⟩) (by show b0 < _; omega)).trans z1
            have n8 := (n1.cell (p := ⟨b0, 1, none⟩) (by show b0 < _; omega)).trans z2
            have o7 := (o1.cell (p := ⟨b0, 0, none⟩) (by show b0 < _; omega)).trans z1
            have o8 := (o1.cell (p := ⟨b0, 1, none⟩) (by show b0 < _; omega)).trans z2
            have HN1 := Lib.hid n1
            have HO1' := Lib.hid o1
            have HX1 := Lib.hid (HW2.out.trans (n1.mono hs2))
            have HX2 := Lib.hid (HW2.out.trans (o1.mono hs2))
            have hwa := HWA.out.size
            clear n1 o1
            generalize ((wr.alloc (.cells #[.int .i64 Ax, .int .i64 Ay] 46)).alloc (.cells #[.int .i64 Bx, .int .i64 By] 46)).drew = Wa at *
            generalize ((wr.alloc (.cells #[.int .i64 Bx, .int .i64 By] 46)).alloc (.cells #[.int .i64 Ax, .int .i64 Ay] 46)).drew = Wb at *
            have M1 := mul_bd9 (x := By - Ay) (y := X - Ax) ⟨by omega, by omega⟩ ⟨by omega, by omega⟩
            have M2 := mul_bd9 (x := Y - Ay) (y := Bx - Ax) ⟨by omega, by omega⟩ ⟨by omega, by omega⟩
            have V1 : IntKind.i64.wrap ((By - Ay) * (X - Ax)) = (By - Ay) * (X - Ax) := IntWalk.i64_in _ (by omega)
            have V2 : IntKind.i64.wrap ((Y - Ay) * (Bx - Ax)) = (Y - Ay) * (Bx - Ax) := IntWalk.i64_in _ (by omega)
            by_cases ht : (By - Ay) * (X - Ax) < (Y - Ay) * (Bx - Ax)
            · have HTK := Lib.hid (HT2.out (by show ¬ ((Y - Ay) * (Bx - Ax) ≤ (By - Ay) * (X - Ax)); omega))
              have hLc : (popL L (X, Y)).length ≤ 1000000 := by have := (popL_prefix L (X, Y)).length_le; rw [HN0.out] at this; omega
              have HOC1 := Lib.hid (show OwnC Wa w1.heap.size (.slice (some ⟨g, 0, none⟩) n c2) (popL L (X, Y)) by rw [← HTK.out]; exact (HO2.out.step HN1.out).cutA hn)
              have HOC2 := Lib.hid (show OwnC Wb w1.heap.size (.slice (some ⟨g, 0, none⟩) n c2) (popL L (X, Y)) by rw [← HTK.out]; exact (HO2.out.step HO1'.out).cutA hn)
              go_wp2_with (at_builtin; first | refine append_row infoC Try.underlying43 rfl (by omega) (by omega) cC_len cC_one _ rfl _ _ rfl (n := (X, Y)) rfl rfl HOC1.out hLc (by omega) rfl rfl ?_ | refine append_row infoC Try.underlying43 rfl (by omega) (by omega) cC_len cC_one _ rfl _ _ rfl (n := (X, Y)) rfl rfl HOC2.out hLc (by omega) rfl rfl ?_)
              intro vv w5 hown5 hg5 hbel5
              rw [← HG.out] at hown5
              have HO5 := Lib.hid hown5
              have HB5 := Lib.hid (show Below w1.heap.size w1 w5 by first | exact (HWA.out.trans (HX1.out.mono hwa)).trans hbel5 | exact (HWA.out.trans (HX2.out.mono hwa)).trans hbel5)
              clear hown5 hg5 hbel5
              go_wp2
              go_roundw
              case rel => exact ⟨i + 1, by go_num, by omega, HO5.out, HB5.out⟩
              case measure => simp [intOf]; omega
            · have HTK := Lib.hid (HT1.out (by show (Y - Ay) * (Bx - Ax) ≤ (By - Ay) * (X - Ax); omega))
              have J7 : k' ≤ c2 := by omega
              have J8 : (k' : Int) ≤ (c2 : Int) := by omega
              go_wp2
              go_roundw
              case rel => exact ⟨k', by go_num, by omega, rfl, HTK.out, by first | exact HX1.out | exact HX2.out⟩
              case measure => simp [intOf]; omega
        · have HTK := Lib.hid (show L.take n = popL L (X, Y) by rw [← hpop, popL_few (by omega)])
          have hLc : (popL L (X, Y)).length ≤ 1000000 := by have := (popL_prefix L (X, Y)).length_le; rw [HN0.out] at this; omega
          have HOC1 := Lib.hid (show OwnC wr w1.heap.size (.slice a2 n c2) (popL L (X, Y)) by rw [← HTK.out]; exact HO2.out.cutA hn)
          have hwa := HWA.out.size
          clear hpop
          go_wp2_with (at_builtin; refine append_row infoC Try.underlying43 rfl (by omega) (by omega) cC_len cC_one _ rfl _ _ rfl (n := (X, Y)) rfl rfl HOC1.out hLc (by omega) rfl rfl ?_)
          intro vv w5 hown5 hg5 hbel5
          rw [← HG.out] at hown5
          have HO5 := Lib.hid hown5
          have HB5 := Lib.hid (show Below w1.heap.size w1 w5 from (HWA.out.trans (HW2.out.mono hwa)).trans hbel5)
          clear hown5 hg5 hbel5
          go_wp2
          go_roundw
          case rel => exact ⟨i + 1, by go_num, by omega, HO5.out, HB5.out⟩
          case measure => simp [intOf]; omega
    · obtain rfl : i = m := by omega
      go_wp2
      go_ret
      exact ⟨_, rfl, hown.mono hs1, HB1.out.trans (HW.out.mono hs1)⟩

end Go.Proofs.Ytggojomooodlgaa
