/- Contracts: SimpleRoots. -/
import Derived.Test.YthepcmppibibfaaOq
namespace Go.Proofs.Ythepcmppibibfaa
open Go.RowKit
set_option linter.unusedVariables false
set_option linter.unusedSimpArgs false

def srL (p n : Int) (f : List Int) : Nat → List Int
  | 0 => []
  | k + 1 => if simB p f k then srL p n f k ++ [liftV p n f k] else srL p n f k
theorem srL_len (p n : Int) (f : List Int) : ∀ k, (srL p n f k).length ≤ k
  | 0 => Nat.le_refl _
  | k + 1 => by
    have := srL_len p n f k
    rw [srL]; split
    · simp; omega
    · omega
def srC (p n : Int) (f : List Int) : Int := if ringB p n && polyB f then 0 else 1
def srV (p n : Int) (f : List Int) : List Int := if ringB p n && polyB f then srL p n f p.toNat else []
set_option maxHeartbeats 4000000 in
theorem SimpleRoots_any {p n : Int} {v : Value} {f : List Int} {w : World} (h : Reads w v f) (hn : n ≤ 9223372036854775807) (hn' : -9223372036854775808 ≤ n) :
    Calls Try.prog 37 #[.agg #[.int .i64 p, .int .i64 n], v] w (RetIC (srV p n f) (srC p n f) w) := by
  have HR := Lib.hid (h.step (below_box (.cells #[.int .i64 p, .int .i64 n] 26)))
  clear h
  rcases Bool.eq_false_or_eq_true (ringB p n) with hs | hs
  · have HS := Lib.hid hs
    have HPR := Lib.hid (ring_prime hs)
    obtain ⟨⟨p1, p2⟩, r2, r3⟩ := ring_bd hs
    clear hs
    rcases Bool.eq_false_or_eq_true (polyB f) with hp | hp
    · have HP := Lib.hid hp
      obtain ⟨p9, hfb, _⟩ := polyB_bd hp
      have HF := Lib.hid (Bd.of (show (0 : Int) ≤ 1000000 by omega) hfb)
      clear hp hfb
      go_enter Try.func37, Try.ntmps37
      go_wp2_with (go_at_call 51; with_reducible refine (calls_bool (IsRing_any _ _ _ hn hn') HS.out).mono ?_)
      rintro _ w1 ⟨rfl, hb1⟩
      obtain ⟨c1, c2⟩ := box_cells hb1
      have hs1 := hb1.size
      simp at hs1
      have HR1 := Lib.hid (HR.out.step hb1)
      have HB1 := Lib.hid (show Below w.heap.size w w1 from (below_box _).trans (hb1.mono (by simp)))
      clear hb1
      go_wp2_with (first | (go_at_call 57; ((with_reducible refine (calls_bool (IsPolynomial_any HR1.out) HP.out).mono ?_); rintro e w' ⟨rfl, rfl⟩)))
      go_loopw [6, 20] (fun l c wr => ∃ k : Nat, c = .int .i64 (k : Int) ∧ (k : Int) ≤ p ∧ Own wr w1.heap.size l (srL p n f k) ∧ Below w1.heap.size w1 wr) (fun _ c _ => (p - intOf c).toNat)
      case atStart => exact ⟨0, rfl, by omega, Own.nil, Below.refl _ _⟩
      case round =>
        obtain ⟨k, rfl, hk, hown, hbel⟩ := hrel
        have HO := Lib.hid hown
        have HW := Lib.hid hbel
        have hsw := hbel.size
        clear hown hbel
        have e1 := (HW.out.cell (p := ⟨w.heap.size, 0, none⟩) (by show w.heap.size < _; omega)).trans c1
        have e2 := (HW.out.cell (p := ⟨w.heap.size, 1, none⟩) (by show w.heap.size < _; omega)).trans c2
        have HRW := Lib.hid (HR1.out.step HW.out)
        by_cases hlt : (k : Int) < p
        · rcases Bool.eq_false_or_eq_true (simB p f k) with hm | hm
          · have HM := Lib.hid hm
            have HL := Lib.hid (show lifR p n f k = liftV p n f k by rw [lifR, if_pos hm])
            have HN := Lib.hid (show srL p n f (k + 1) = srL p n f k ++ [liftV p n f k] by rw [srL, if_pos hm])
            have hlen : (srL p n f k).length + 1 ≤ 1099511627776 := by have := srL_len p n f k; omega
            clear hm
            go_wp2_with (go_at_call 76; with_reducible refine (lift_any HRW.out HS.out HPR.out HF.out p9 ⟨by omega, hlt⟩).mono ?_)
            rintro _ w2 ⟨e3, hb2⟩
            rw [HM.out, HL.out] at e3
            subst e3
            have HO2 := Lib.hid (HO.out.step hb2)
            have HW2 := Lib.hid (HW.out.trans (hb2.mono HW.out.size))
            clear hb2
            go_wp2_with (at_builtin; refine append_one _ rfl _ _ rfl rfl HO2.out hlen HW2.out.size rfl ?_)
            intro vv w3 hown1 hbel1
            rw [← HN.out] at hown1
            have HO3 := Lib.hid hown1
            have HW3 := Lib.hid (HW2.out.trans hbel1)
            clear hown1 hbel1
            go_wp2
            go_roundw
            case rel => exact ⟨k + 1, by go_num, by omega, HO3.out, HW3.out⟩
            case measure => simp [intOf]; omega
          · have HM := Lib.hid hm
            have HL := Lib.hid (show lifR p n f k = 0 by rw [lifR, if_neg (by rw [hm]; simp)])
            have HN := Lib.hid (show srL p n f (k + 1) = srL p n f k by rw [srL, if_neg (by rw [hm]; simp)])
            clear hm
            go_wp2_with (go_at_call 76; with_reducible refine (lift_any HRW.out HS.out HPR.out HF.out p9 ⟨by omega, hlt⟩).mono ?_)
            rintro _ w2 ⟨e3, hb2⟩
            rw [HM.out, HL.out] at e3
            subst e3
            go_wp2
            go_roundw
            case rel => exact ⟨k + 1, by go_num, by omega, by rw [HN.out]; exact HO.out.step hb2, HW.out.trans (hb2.mono HW.out.size)⟩
            case measure => simp [intOf]; omega
        · have HE := Lib.hid (show srV p n f = srL p n f k by rw [srV, HS.out, HP.out, show p.toNat = k by omega]; rfl)
          go_wp2
          go_ret2
          exact ⟨u6, by simp [srC, HS.out, HP.out], by rw [HE.out]; exact HO.out.mono HB1.out.size, HB1.out.trans (HW.out.mono HB1.out.size)⟩
    · have HP := Lib.hid hp
      clear hp
      go_enter Try.func37, Try.ntmps37
      go_wp2_with (go_at_call 51; with_reducible refine (calls_bool (IsRing_any _ _ _ hn hn') HS.out).mono ?_)
      rintro _ w1 ⟨rfl, hb1⟩
      have HR1 := Lib.hid (HR.out.step hb1)
      go_wp2_with (go_at_call 57; ((with_reducible refine (calls_bool (IsPolynomial_any HR1.out) HP.out).mono ?_); rintro e w' ⟨rfl, rfl⟩))
      go_ret2
      exact ⟨.slice none 0 0, by simp [srC, HS.out, HP.out], by simpa [srV, HS.out, HP.out] using Own.nil, (by repeat (first | assumption | exact Below.refl _ _ | exact below_box _ | refine Below.drew ?_ | refine Below.setCell ?_ (by first | (simp; done) | (simp; omega)) _ | (refine below_step (by assumption) (by first | omega | (simp; done) | (simp; omega)) ?_) | (refine Below.alloc ?_ (by first | omega | (simp; done) | (simp; omega)) _)))⟩
  · have HS := Lib.hid hs
    clear hs
    go_enter Try.func37, Try.ntmps37
    go_wp2_with (go_at_call 51; with_reducible refine (calls_bool (IsRing_any _ _ _ hn hn') HS.out).mono ?_)
    rintro _ w1 ⟨rfl, hb1⟩
    go_wp2
    go_ret2
    exact ⟨.slice none 0 0, by simp [srC, HS.out], by simpa [srV, HS.out] using Own.nil, (by repeat (first | assumption | exact Below.refl _ _ | exact below_box _ | refine Below.drew ?_ | refine Below.setCell ?_ (by first | (simp; done) | (simp; omega)) _ | (refine below_step (by assumption) (by first | omega | (simp; done) | (simp; omega)) ?_) | (refine Below.alloc ?_ (by first | omega | (simp; done) | (simp; omega)) _)))⟩
set_option maxHeartbeats 4000000 in
theorem sSimpleRoots_any {p n : Int} {v : Value} {f : List Int} {w : World} (h : Reads w v f) (hn : n ≤ 9223372036854775807) (hn' : -9223372036854775808 ≤ n) :
    Calls Try.prog 36 #[.agg #[.int .i64 p, .int .i64 n], v] w (RetIC (srV p n f) (srC p n f) w) := by
  have HR := Lib.hid (h.step (below_box (.cells #[.int .i64 p, .int .i64 n] 26)))
  clear h
  rcases Bool.eq_false_or_eq_true (ringB p n) with hs | hs
  · have HS := Lib.hid hs
    have HPR := Lib.hid (ring_prime hs)
    obtain ⟨⟨p1, p2⟩, r2, r3⟩ := ring_bd hs
    clear hs
    rcases Bool.eq_false_or_eq_true (polyB f) with hp | hp
    · have HP := Lib.hid hp
      obtain ⟨p9, hfb, _⟩ := polyB_bd hp
      have HF := Lib.hid (Bd.of (show (0 : Int) ≤ 1000000 by omega) hfb)
      clear hp hfb
      go_enter Try.func36, Try.ntmps36
      go_wp2_with (go_at_call 48; with_reducible refine (calls_bool (specIsRing_any _ _ _ hn hn') HS.out).mono ?_)
      rintro _ w1 ⟨rfl, hb1⟩
      obtain ⟨c1, c2⟩ := box_cells hb1
      have hs1 := hb1.size
      simp at hs1
      have HR1 := Lib.hid (HR.out.step hb1)
      have HB1 := Lib.hid (show Below w.heap.size w w1 from (below_box _).trans (hb1.mono (by simp)))
      clear hb1
      go_wp2_with (first | (go_at_call 55; ((with_reducible refine (calls_bool (sIsPolynomial_any HR1.out) HP.out).mono ?_); rintro e w' ⟨rfl, rfl⟩)))
      go_loopw [6, 7] (fun l c wr => ∃ k : Nat, c = .int .i64 (k : Int) ∧ (k : Int) ≤ p ∧ Own wr w1.heap.size l (srL p n f k) ∧ Below w1.heap.size w1 wr) (fun _ c _ => (p - intOf c).toNat)
      case atStart => exact ⟨0, rfl, by omega, own_empty (Nat.le_refl _), below_box _⟩
      case round =>
        obtain ⟨k, rfl, hk, hown, hbel⟩ := hrel
        have HO := Lib.hid hown
        have HW := Lib.hid hbel
        have hsw := hbel.size
        clear hown hbel
        have e1 := (HW.out.cell (p := ⟨w.heap.size, 0, none⟩) (by show w.heap.size < _; omega)).trans c1
        have e2 := (HW.out.cell (p := ⟨w.heap.size, 1, none⟩) (by show w.heap.size < _; omega)).trans c2
        have HRW := Lib.hid (HR1.out.step HW.out)
        by_cases hlt : (k : Int) < p
        · rcases Bool.eq_false_or_eq_true (simB p f k) with hm | hm
          · have HM := Lib.hid hm
            have HN := Lib.hid (show srL p n f (k + 1) = srL p n f k ++ [liftV p n f k] by rw [srL, if_pos hm])
            have hlen : (srL p n f k).length + 1 ≤ 1099511627776 := by have := srL_len p n f k; omega
            clear hm
            go_wp2_with (go_at_call 74; with_reducible refine (calls_bool (l11Simple_any HRW.out ⟨p1, p2⟩ HF.out p9 ⟨by omega, hlt⟩) HM.out).mono ?_)
            rintro _ w2 ⟨rfl, hb2⟩
            have hs2 := hb2.size
            have e3 := (hb2.cell (p := ⟨w.heap.size, 0, none⟩) (by show w.heap.size < _; omega)).trans e1
            have e4 := (hb2.cell (p := ⟨w.heap.size, 1, none⟩) (by show w.heap.size < _; omega)).trans e2
            have HO2 := Lib.hid (HO.out.step hb2)
            have HW2 := Lib.hid (HW.out.trans (hb2.mono HW.out.size))
            have HR2 := Lib.hid (HRW.out.step hb2)
            clear hb2 e1 e2
            go_wp2_with (go_at_call 75; with_reducible refine (l11Lift_any HR2.out HS.out HPR.out HF.out p9 ⟨by omega, hlt⟩ HM.out).mono ?_)
            rintro _ w4 ⟨rfl, hb4⟩
            have HO4 := Lib.hid (HO2.out.step hb4)
            have HW4 := Lib.hid (HW2.out.trans (hb4.mono HW2.out.size))
            clear hb4
            go_wp2_with (at_builtin; refine append_one _ rfl _ _ rfl rfl HO4.out hlen HW4.out.size rfl ?_)
            intro vv w3 hown1 hbel1
            rw [← HN.out] at hown1
            have HO3 := Lib.hid hown1
            have HW3 := Lib.hid (HW4.out.trans hbel1)
            clear hown1 hbel1
            go_wp2
            go_roundw
            case rel => exact ⟨k + 1, by go_num, by omega, HO3.out, HW3.out⟩
            case measure => simp [intOf]; omega
          · have HM := Lib.hid hm
            have HN := Lib.hid (show srL p n f (k + 1) = srL p n f k by rw [srL, if_neg (by rw [hm]; simp)])
            clear hm
            go_wp2_with (go_at_call 74; with_reducible refine (calls_bool (l11Simple_any HRW.out ⟨p1, p2⟩ HF.out p9 ⟨by omega, hlt⟩) HM.out).mono ?_)
            rintro _ w2 ⟨rfl, hb2⟩
            go_wp2
            go_roundw
            case rel => exact ⟨k + 1, by go_num, by omega, by rw [HN.out]; exact HO.out.step hb2, HW.out.trans (hb2.mono HW.out.size)⟩
            case measure => simp [intOf]; omega
        · have HE := Lib.hid (show srV p n f = srL p n f k by rw [srV, HS.out, HP.out, show p.toNat = k by omega]; rfl)
          go_wp2
          go_ret2
          exact ⟨u6, by simp [srC, HS.out, HP.out], by rw [HE.out]; exact HO.out.mono HB1.out.size, HB1.out.trans (HW.out.mono HB1.out.size)⟩
    · have HP := Lib.hid hp
      clear hp
      go_enter Try.func36, Try.ntmps36
      go_wp2_with (go_at_call 48; with_reducible refine (calls_bool (specIsRing_any _ _ _ hn hn') HS.out).mono ?_)
      rintro _ w1 ⟨rfl, hb1⟩
      have HR1 := Lib.hid (HR.out.step hb1)
      go_wp2_with (go_at_call 55; ((with_reducible refine (calls_bool (sIsPolynomial_any HR1.out) HP.out).mono ?_); rintro e w' ⟨rfl, rfl⟩))
      go_ret2
      exact ⟨.slice none 0 0, by simp [srC, HS.out, HP.out], by simpa [srV, HS.out, HP.out] using Own.nil, (by repeat (first | assumption | exact Below.refl _ _ | exact below_box _ | refine Below.drew ?_ | refine Below.setCell ?_ (by first | (simp; done) | (simp; omega)) _ | (refine below_step (by assumption) (by first | omega | (simp; done) | (simp; omega)) ?_) | (refine Below.alloc ?_ (by first | omega | (simp; done) | (simp; omega)) _)))⟩
  · have HS := Lib.hid hs
    clear hs
    go_enter Try.func36, Try.ntmps36
    go_wp2_with (go_at_call 48; with_reducible refine (calls_bool (specIsRing_any _ _ _ hn hn') HS.out).mono ?_)
    rintro _ w1 ⟨rfl, hb1⟩
    go_wp2
    go_ret2
    exact ⟨.slice none 0 0, by simp [srC, HS.out], by simpa [srV, HS.out] using Own.nil, (by repeat (first | assumption | exact Below.refl _ _ | exact below_box _ | refine Below.drew ?_ | refine Below.setCell ?_ (by first | (simp; done) | (simp; omega)) _ | (refine below_step (by assumption) (by first | omega | (simp; done) | (simp; omega)) ?_) | (refine Below.alloc ?_ (by first | omega | (simp; done) | (simp; omega)) _)))⟩

end Go.Proofs.Ythepcmppibibfaa
