/- Contract: the reference's corners. -/
import Derived.Test.YtggojomooodlgaaKe
namespace Go.Proofs.Ytggojomooodlgaa
open Go.RowKit
set_option linter.unusedVariables false
set_option linter.unusedSimpArgs false

theorem OwnC.first {w : World} {lo : Nat} (h : lo ≤ w.heap.size) (X Y : Int) : OwnC (w.alloc (.cells #[.int .i64 X, .int .i64 Y] 46)) lo (.slice (some ⟨w.heap.size, 0, none⟩) 1 1) [(X, Y)] := by
  refine ⟨by simp [cC], .inr ⟨w.heap.size, 1, #[.int .i64 X, .int .i64 Y], rfl, h, ?_, by simp, by simp [maxLen], by simp, by simp [cC]⟩⟩
  show (w.heap.push _)[w.heap.size]? = _
  simp

set_option maxHeartbeats 8000000 in
set_option maxRecDepth 100000 in
theorem l13Polygon_any {p : Int} {v : Value} {f : List Int} {w : World} (h : Reads w v f) (hp : 2 ≤ p ∧ p ≤ 97) (hf : Bd 1000000 f) (hl : f.length ≤ 9) (hne : ptA p f ≠ []) :
    Calls Try.prog 26 #[.int .i64 p, v] w (RetC (polA p f) w) := by
  have HR := Lib.hid h
  have hml := ptsL_len p f f.length
  have hbd : ∀ i, i < (ptA p f).length → 0 ≤ (ptG (ptA p f) i).1 ∧ (ptG (ptA p f) i).1 ≤ 9 ∧ 0 ≤ (ptG (ptA p f) i).2 ∧ (ptG (ptA p f) i).2 ≤ 1000000 := fun i hi => by
    have h1 := ptsL_ok p f f.length _ (ptG_mem (P := ptA p f) hi)
    have h2 := h1.bd hp.1 hf
    exact ⟨h1.1, by have := h1.2.1; omega, h2.1, h2.2.1⟩
  have hpos := List.length_pos_iff.2 hne
  rw [polA_jar hne]
  have HPT := Lib.hid (fun (v : Value) (w : World) (hR : Reads w v f) => l13Points_any hR hp hf hl)
  change (ptA p f).length ≤ _ at hml
  clear h hf hne
  obtain ⟨P, hP⟩ : ∃ P, ptA p f = P := ⟨_, rfl⟩
  rw [hP] at hml hbd HPT hpos ⊢
  obtain ⟨m, hm⟩ : ∃ m, P.length = m := ⟨_, rfl⟩
  rw [hm] at hml hbd hpos ⊢
  obtain ⟨WH, hWH⟩ : ∃ WH, ptG P 0 :: jarG (ptG P) m m 0 = WH := ⟨_, rfl⟩
  have HWH := Lib.hid hWH
  rw [hWH]
  have HBD := Lib.hid hbd
  have HM := Lib.hid hm
  clear hbd hm hP hWH
  go_enter Try.func26, Try.ntmps26
  go_wp2_with (go_at_call 42; with_reducible refine (HPT.out _ _ HR.out).mono ?_)
  rintro _ w1 ⟨v1, rfl, o1, hb1⟩
  obtain ⟨a1, c1, rfl, k1, k2⟩ := OwnC.open o1
  rw [HM.out] at o1 k1 k2 ⊢
  obtain ⟨g1, rfl, hg1, hg2⟩ := k2 0 hpos
  obtain ⟨x1, x2⟩ := o1.at (i := 0) (by rw [HM.out]; exact hpos)
  simp only [Nat.zero_mul, Nat.zero_add] at x1 x2
  have HO1 := Lib.hid o1
  have HB1 := Lib.hid hb1
  have hs1 := hb1.size
  have hm9 : m ≤ 9 := by omega
  have hmI : (0 : Int) < (m : Int) := by omega
  clear o1 k2 hb1
  obtain ⟨⟨X0, Y0⟩, hC0⟩ : ∃ C, ptG P 0 = C := ⟨_, rfl⟩
  simp only [hC0] at x1 x2
  have HC0 := Lib.hid hC0
  clear hC0
  go_wp2
  go_loopw [6, 7] (fun l c wr => ∃ (t : Nat) (O : List (Int × Int)) (fu : Nat), c = .int .i64 (t : Int) ∧ t < m ∧ m - t ≤ fu ∧ OwnC wr w1.heap.size l O ∧ O.length ≤ t + 1 ∧ O ++ jarG (ptG P) m fu t = WH ∧ Below w1.heap.size w1 wr) (fun _ c _ => m - (intOf c).toNat)
  case atStart => exact ⟨0, [(X0, Y0)], m, rfl, by omega, by omega, OwnC.first (Nat.le_refl _) X0 Y0, by simp, by rw [← HC0.out]; exact HWH.out, below_box _⟩
  case round =>
    obtain ⟨t, O, fu, rfl, ht, hfu, hown, hol, hwhole, hbel⟩ := hrel
    have HW := Lib.hid hbel
    have hsw := hbel.size
    have HO := Lib.hid hown
    clear hbel hown
    obtain ⟨fu, rfl⟩ : ∃ k, fu = k + 1 := ⟨fu - 1, by omega⟩
    rw [jarG] at hwhole
    by_cases hlt : t + 1 < m
    · rw [if_pos hlt] at hwhole
      have HWW := Lib.hid hwhole
      have hcd : decide ((t : Int) < (m : Int) - 1) = true := by simp; omega
      clear hwhole
      go_wp2
      go_loopw [8, 9] (fun a c wr2 => ∃ j : Nat, c = .int .i64 ((t + 2 + j : Nat) : Int) ∧ j ≤ m - (t + 2) ∧ a = .int .i64 ((nxI (ptG P) t j : Nat) : Int) ∧ Below w1.heap.size w1 wr2 ∧ Below wr.heap.size wr wr2) (fun _ c _ => m - (intOf c).toNat)
      case atStart => exact ⟨0, by go_num, by omega, by simp [nxI], HW.out, Below.refl _ _⟩
      case round =>
        obtain ⟨j, rfl, hj, rfl, hbel, hbel2⟩ := hrel
        have HW2 := Lib.hid hbel
        have HW3 := Lib.hid hbel2
        have hs2 := hbel.size
        have HOP := Lib.hid (HO1.out.step hbel)
        obtain ⟨nb1, nb2⟩ := nxI_bd (ptG P) t j
        clear hbel hbel2
        by_cases hk : t + 2 + j < m
        · have hnx1 : nxI (ptG P) t (j + 1) = if TL (ptG P t) (ptG P (nxI (ptG P) t j)) (ptG P (t + 2 + j)) then t + 2 + j else nxI (ptG P) t j := rfl
          obtain ⟨nx, hnx⟩ : ∃ nx, nxI (ptG P) t j = nx := ⟨_, rfl⟩
          rw [hnx] at nb1 nb2 hnx1 ⊢
          obtain ⟨kk, hkk⟩ : ∃ kk, t + 2 + j = kk := ⟨_, rfl⟩
          rw [hkk] at hk hnx1 ⊢
          obtain ⟨e1, e2⟩ := HOP.out.at (i := nx) (by rw [HM.out]; omega)
          obtain ⟨e3, e4⟩ := HOP.out.at (i := kk) (by rw [HM.out]; omega)
          obtain ⟨e5, e6⟩ := HOP.out.at (i := t) (by rw [HM.out]; omega)
          obtain ⟨u1, u2, u3, u4⟩ := HBD.out nx (by omega)
          obtain ⟨v1, v2, v3, v4⟩ := HBD.out kk (by omega)
          obtain ⟨q1, q2, q3, q4⟩ := HBD.out t (by omega)
          generalize ptG P nx = A at *
          generalize ptG P kk = B at *
          generalize hTT : ptG P t = T0 at e5 e6 q1 q2 q3 q4 hnx1
          obtain ⟨Ax, Ay⟩ := A
          obtain ⟨Bx, By⟩ := B
          obtain ⟨Tx, Ty⟩ := T0
          simp only at e1 e2 e3 e4 e5 e6 u1 u2 u3 u4 v1 v2 v3 v4 q1 q2 q3 q4
          have hTL : TL (Tx, Ty) (Ax, Ay) (Bx, By) ↔ (By - Ty) * (Ax - Tx) ≤ (Ay - Ty) * (Bx - Tx) := Iff.rfl
          have hgb : g1 < wr.heap.size := by omega
          have J1 : (0 : Int) ≤ (nx : Int) := by omega
          have J2 : (nx : Int) < (m : Int) := by omega
          have J3 : (0 : Int) ≤ (kk : Int) := by omega
          have J4 : (kk : Int) < (m : Int) := by omega
          have J5 : nx < m := by omega
          have J7 : (0 : Int) ≤ (t : Int) := by omega
          have J8 : (t : Int) < (m : Int) := by omega
          have HKK := Lib.hid hkk
          have HNX := Lib.hid hnx
          have HNX1 := Lib.hid hnx1
          have HTL := Lib.hid hTL
          clear hkk hnx hnx1 hTL hTT
          go_wp2
          go_region_held3 (fun w' => w'.cell? ⟨g1, nx * 2, none⟩ = some (.int .i64 Ax) ∧ w'.cell? ⟨g1, nx * 2 + 1, none⟩ = some (.int .i64 Ay) ∧ w'.cell? ⟨g1, kk * 2, none⟩ = some (.int .i64 Bx) ∧ w'.cell? ⟨g1, kk * 2 + 1, none⟩ = some (.int .i64 By)) (go_keep) (fail)
          all_goals
            obtain ⟨n1, n2, n3, n4, n5, n6⟩ := two_new wr (.int .i64 Ax) (.int .i64 Ay) (.int .i64 Bx) (.int .i64 By) 46
            obtain ⟨o1, o2, o3, o4, o5, o6⟩ := two_new wr (.int .i64 Bx) (.int .i64 By) (.int .i64 Ax) (.int .i64 Ay) 46
            have n7 := (n1.cell (p := ⟨g1, t * 2, none⟩) (by show g1 < _; omega)).trans e5
            have n8 := (n1.cell (p := ⟨g1, t * 2 + 1, none⟩) (by show g1 < _; omega)).trans e6
            have o7 := (o1.cell (p := ⟨g1, t * 2, none⟩) (by show g1 < _; omega)).trans e5
            have o8 := (o1.cell (p := ⟨g1, t * 2 + 1, none⟩) (by show g1 < _; omega)).trans e6
            have HX1 := Lib.hid (HW2.out.trans (n1.mono hs2))
            have HX2 := Lib.hid (HW2.out.trans (o1.mono hs2))
            have HY1 := Lib.hid (HW3.out.trans (n1.mono HW3.out.size))
            have HY2 := Lib.hid (HW3.out.trans (o1.mono HW3.out.size))
            clear n1 o1
            generalize ((wr.alloc (.cells #[.int .i64 Ax, .int .i64 Ay] 46)).alloc (.cells #[.int .i64 Bx, .int .i64 By] 46)).drew = Wa at *
            generalize ((wr.alloc (.cells #[.int .i64 Bx, .int .i64 By] 46)).alloc (.cells #[.int .i64 Ax, .int .i64 Ay] 46)).drew = Wb at *
            have M1 := mul_bd9 (x := By - Ty) (y := Ax - Tx) ⟨by omega, by omega⟩ ⟨by omega, by omega⟩
            have M2 := mul_bd9 (x := Ay - Ty) (y := Bx - Tx) ⟨by omega, by omega⟩ ⟨by omega, by omega⟩
            have V1 : IntKind.i64.wrap ((By - Ty) * (Ax - Tx)) = (By - Ty) * (Ax - Tx) := IntWalk.i64_in _ (by omega)
            have V2 : IntKind.i64.wrap ((Ay - Ty) * (Bx - Tx)) = (Ay - Ty) * (Bx - Tx) := IntWalk.i64_in _ (by omega)
            have L1 : IntKind.i64.wrap (By - Ty) = By - Ty := IntWalk.i64_in _ (by omega)
            have L2 : IntKind.i64.wrap (Ax - Tx) = Ax - Tx := IntWalk.i64_in _ (by omega)
            have L3 : IntKind.i64.wrap (Ay - Ty) = Ay - Ty := IntWalk.i64_in _ (by omega)
            have L4 : IntKind.i64.wrap (Bx - Tx) = Bx - Tx := IntWalk.i64_in _ (by omega)
            go_wp2
            first
              | go_region_held3 (fun w' => w'.cell? ⟨wr.heap.size, 0, none⟩ = some (.int .i64 Ax) ∧ w'.cell? ⟨wr.heap.size, 1, none⟩ = some (.int .i64 Ay) ∧ w'.cell? ⟨(wr.heap.size + 1), 0, none⟩ = some (.int .i64 Bx) ∧ w'.cell? ⟨(wr.heap.size + 1), 1, none⟩ = some (.int .i64 By) ∧ w'.cell? ⟨g1, t * 2, none⟩ = some (.int .i64 Tx) ∧ w'.cell? ⟨g1, t * 2 + 1, none⟩ = some (.int .i64 Ty)) (go_keep) (fail)
              | go_region_held3 (fun w' => w'.cell? ⟨(wr.heap.size + 1), 0, none⟩ = some (.int .i64 Ax) ∧ w'.cell? ⟨(wr.heap.size + 1), 1, none⟩ = some (.int .i64 Ay) ∧ w'.cell? ⟨wr.heap.size, 0, none⟩ = some (.int .i64 Bx) ∧ w'.cell? ⟨wr.heap.size, 1, none⟩ = some (.int .i64 By) ∧ w'.cell? ⟨g1, t * 2, none⟩ = some (.int .i64 Tx) ∧ w'.cell? ⟨g1, t * 2 + 1, none⟩ = some (.int .i64 Ty)) (go_keep) (fail)
            by_cases hc : (By - Ty) * (Ax - Tx) ≤ (Ay - Ty) * (Bx - Tx)
            · have HE := Lib.hid (show nxI (ptG P) t (j + 1) = kk by rw [HNX1.out, if_pos (HTL.out.2 hc)])
              go_wp2
              go_roundw
              case rel => exact ⟨j + 1, by rw [show ((t + 2 + (j + 1) : Nat) : Int) = (kk : Int) + 1 by have := HKK.out; omega], by have := HKK.out; omega, by rw [HE.out], by first | exact HX1.out.drew | exact HX2.out.drew, by first | exact HY1.out.drew | exact HY2.out.drew⟩
              case measure => simp [intOf]; omega
            · have HE := Lib.hid (show nxI (ptG P) t (j + 1) = nx by rw [HNX1.out, if_neg (fun h => hc (HTL.out.1 h))])
              go_wp2
              go_roundw
              case rel => exact ⟨j + 1, by rw [show ((t + 2 + (j + 1) : Nat) : Int) = (kk : Int) + 1 by have := HKK.out; omega], by have := HKK.out; omega, by rw [HE.out], by first | exact HX1.out.drew | exact HX2.out.drew, by first | exact HY1.out.drew | exact HY2.out.drew⟩
              case measure => simp [intOf]; omega
        · obtain rfl : j = m - (t + 2) := by omega
          have HWZ := HWW.out
          obtain ⟨nx, hnx⟩ : ∃ nx, nxI (ptG P) t (m - (t + 2)) = nx := ⟨_, rfl⟩
          rw [hnx] at nb1 nb2 HWZ ⊢
          obtain ⟨kk, hkk⟩ : ∃ kk, t + 2 + (m - (t + 2)) = kk := ⟨_, rfl⟩
          rw [hkk] at hk ⊢
          have hkm : (kk : Int) = (m : Int) := by omega
          obtain ⟨e1, e2⟩ := HOP.out.at (i := nx) (by rw [HM.out]; omega)
          generalize ptG P nx = A at *
          obtain ⟨Ax, Ay⟩ := A
          simp only at e1 e2
          have J1 : (0 : Int) ≤ (nx : Int) := by omega
          have J2 : (nx : Int) < (m : Int) := by omega
          have J5 : nx < m := by omega
          have HWX := Lib.hid (show (O ++ [(Ax, Ay)]) ++ jarG (ptG P) m fu nx = WH by rw [List.append_assoc]; exact HWZ)
          have hLc : O.length ≤ 1000000 := by omega
          have HO3 := Lib.hid (HO.out.step HW3.out)
          clear HWZ hnx hkk
          go_wp2_with (at_builtin; refine append_row infoC Try.underlying43 rfl (by omega) (by omega) cC_len cC_one _ rfl _ _ rfl (n := (Ax, Ay)) rfl rfl HO3.out hLc hs2 rfl rfl ?_)
          intro vv w5 hown5 hg5 hbel5
          have HO5 := Lib.hid hown5
          have HB5 := Lib.hid (HW2.out.trans hbel5)
          clear hown5 hg5 hbel5
          go_wp2
          go_roundw
          case rel => exact ⟨nx, O ++ [(Ax, Ay)], fu, rfl, by omega, by omega, HO5.out, by rw [List.length_append, List.length_singleton]; omega, HWX.out, HB5.out⟩
          case measure => simp [intOf]; omega
    · rw [if_neg hlt, List.append_nil] at hwhole
      have HWW := Lib.hid hwhole
      clear hwhole
      go_wp2
      go_ret
      exact ⟨_, rfl, by rw [← HWW.out]; exact HO.out.mono hs1, HB1.out.trans (HW.out.mono hs1)⟩

end Go.Proofs.Ytggojomooodlgaa
