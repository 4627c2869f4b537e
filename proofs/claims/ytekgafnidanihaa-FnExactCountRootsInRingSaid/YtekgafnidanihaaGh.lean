/- Contracts: CountRootsInRing, both. -/
import Derived.Test.YtekgafnidanihaaGg
namespace Go.Proofs.Ytekgafnidanihaa
open Go.RowKit
set_option linter.unusedVariables false
set_option linter.unusedSimpArgs false

def crC (p n : Int) (f : List Int) : Int := if ringB p n && polyB f then if 100000 < p ^ n.toNat then 3 else 0 else 1
def crV (p n : Int) (f : List Int) : Int := if crC p n f = 0 then (rbS p n f : Int) else 0

set_option maxHeartbeats 2000000 in
theorem CountRootsInRing_any {p n : Int} {v : Value} {f : List Int} {w : World} (h : Reads w v f) (hn : n ≤ 9223372036854775807) (hn' : -9223372036854775808 ≤ n) :
    Calls Try.prog 7 #[.agg #[.int .i64 p, .int .i64 n], v] w fun e w' => e = .returned (.tuple #[.int .i64 (crV p n f), .int .i64 (crC p n f)]) ∧ Below w.heap.size w w' := by
  have HR := Lib.hid (h.step (below_box (.cells #[.int .i64 p, .int .i64 n] 27)))
  clear h
  rcases Bool.eq_false_or_eq_true (ringB p n) with hs | hs
  · have HS := Lib.hid hs
    obtain ⟨⟨p1, p2⟩, r2, r3⟩ := ring_bd hs
    clear hs
    rcases Bool.eq_false_or_eq_true (polyB f) with hp | hp
    · have HP := Lib.hid hp
      obtain ⟨p9, hfb, _⟩ := polyB_bd hp
      have HF := Lib.hid (Bd.of (show (0 : Int) ≤ 1000000 by omega) hfb)
      clear hp hfb
      rcases Int.lt_or_le 100000 (p ^ n.toNat) with hm | hm
      · have HC := Lib.hid (show crC p n f = 3 by simp [crC, HS.out, HP.out, hm])
        have HV := Lib.hid (show crV p n f = 0 by rw [crV, if_neg (by rw [HC.out]; omega)])
        go_enter Try.func7, Try.ntmps7
        go_wp2_with (go_at_call 13; with_reducible refine (calls_bool (IsRing_any _ _ _ hn hn') HS.out).mono ?_)
        rintro _ w1 ⟨rfl, hb1⟩
        obtain ⟨c1, c2⟩ := box_cells hb1
        have hs1 := hb1.size
        simp at hs1
        have HR1 := Lib.hid (HR.out.step hb1)
        have HB1 := Lib.hid (show Below w.heap.size w w1 from (below_box _).trans (hb1.mono (by simp)))
        clear hb1
        go_wp2_with (first | (go_at_call 14; ((with_reducible refine (calls_bool (IsPolynomial_any HR1.out) HP.out).mono ?_); rintro e w' ⟨rfl, rfl⟩)) | (go_at_call 15; with_reducible refine (modulus_any _ _ _ HS.out).mono ?_))
        rintro _ w2 ⟨rfl, hb2⟩
        go_wp2
        go_ret2
        exact ⟨by rw [HC.out, HV.out]; rfl, HB1.out.trans (hb2.mono HB1.out.size)⟩
      · have HC := Lib.hid (show crC p n f = 0 by simp [crC, HS.out, HP.out]; omega)
        have HV := Lib.hid (show crV p n f = (rbS p n f : Int) by rw [crV, if_pos HC.out])
        go_enter Try.func7, Try.ntmps7
        go_wp2_with (go_at_call 13; with_reducible refine (calls_bool (IsRing_any _ _ _ hn hn') HS.out).mono ?_)
        rintro _ w1 ⟨rfl, hb1⟩
        obtain ⟨c1, c2⟩ := box_cells hb1
        have hs1 := hb1.size
        simp at hs1
        have HR1 := Lib.hid (HR.out.step hb1)
        have HB1 := Lib.hid (show Below w.heap.size w w1 from (below_box _).trans (hb1.mono (by simp)))
        clear hb1
        go_wp2_with (first | (go_at_call 14; ((with_reducible refine (calls_bool (IsPolynomial_any HR1.out) HP.out).mono ?_); rintro e w' ⟨rfl, rfl⟩)) | (go_at_call 15; with_reducible refine (modulus_any _ _ _ HS.out).mono ?_))
        rintro _ w2 ⟨rfl, hb2⟩
        have e1 := (hb2.cell (p := ⟨w.heap.size, 0, none⟩) (by show w.heap.size < _; omega)).trans c1
        have e2 := (hb2.cell (p := ⟨w.heap.size, 1, none⟩) (by show w.heap.size < _; omega)).trans c2
        have HR2 := Lib.hid (HR1.out.step hb2)
        have HB2 := Lib.hid (HB1.out.trans (hb2.mono HB1.out.size))
        clear hb2
        go_wp2_with (go_at_call 16; with_reducible refine (rootBalls_any HR2.out HS.out HF.out p9).mono ?_)
        rintro _ w3 ⟨v3, rfl, o3, hb3⟩
        go_wp2
        go_ret2
        exact ⟨by rw [HC.out, HV.out]; rfl, HB2.out.trans (hb3.mono HB2.out.size)⟩
    · have HP := Lib.hid hp
      clear hp
      go_enter Try.func7, Try.ntmps7
      go_wp2_with (go_at_call 13; with_reducible refine (calls_bool (IsRing_any _ _ _ hn hn') HS.out).mono ?_)
      rintro _ w1 ⟨rfl, hb1⟩
      have HR1 := Lib.hid (HR.out.step hb1)
      go_wp2_with (go_at_call 14; ((with_reducible refine (calls_bool (IsPolynomial_any HR1.out) HP.out).mono ?_); rintro e w' ⟨rfl, rfl⟩))
      go_ret2
      exact ⟨by simp [crV, crC, HS.out, HP.out], (by repeat (first | assumption | exact Below.refl _ _ | exact below_box _ | refine Below.drew ?_ | refine Below.setCell ?_ (by first | (simp; done) | (simp; omega)) _ | (refine below_step (by assumption) (by first | omega | (simp; done) | (simp; omega)) ?_) | (refine Below.alloc ?_ (by first | omega | (simp; done) | (simp; omega)) _)))⟩
  · have HS := Lib.hid hs
    clear hs
    go_enter Try.func7, Try.ntmps7
    go_wp2_with (go_at_call 13; with_reducible refine (calls_bool (IsRing_any _ _ _ hn hn') HS.out).mono ?_)
    rintro _ w1 ⟨rfl, hb1⟩
    go_wp2
    go_ret2
    exact ⟨by simp [crV, crC, HS.out], (by repeat (first | assumption | exact Below.refl _ _ | exact below_box _ | refine Below.drew ?_ | refine Below.setCell ?_ (by first | (simp; done) | (simp; omega)) _ | (refine below_step (by assumption) (by first | omega | (simp; done) | (simp; omega)) ?_) | (refine Below.alloc ?_ (by first | omega | (simp; done) | (simp; omega)) _)))⟩

set_option maxHeartbeats 2000000 in
theorem sCountRootsInRing_any {p n : Int} {v : Value} {f : List Int} {w : World} (h : Reads w v f) (hn : n ≤ 9223372036854775807) (hn' : -9223372036854775808 ≤ n) :
    Calls Try.prog 4 #[.agg #[.int .i64 p, .int .i64 n], v] w fun e w' => e = .returned (.tuple #[.int .i64 (crV p n f), .int .i64 (crC p n f)]) ∧ Below w.heap.size w w' := by
  have HR := Lib.hid (h.step (below_box (.cells #[.int .i64 p, .int .i64 n] 27)))
  clear h
  rcases Bool.eq_false_or_eq_true (ringB p n) with hs | hs
  · have HS := Lib.hid hs
    have hcnt := rb_count hs f
    obtain ⟨⟨p1, p2⟩, r2, r3⟩ := ring_bd hs
    clear hs
    rcases Bool.eq_false_or_eq_true (polyB f) with hp | hp
    · have HP := Lib.hid hp
      obtain ⟨p9, hfb, _⟩ := polyB_bd hp
      have HF := Lib.hid (Bd.of (show (0 : Int) ≤ 8000000 by omega) (fun x hx => by have := hfb x hx; omega))
      clear hp hfb
      rcases Int.lt_or_le 100000 (p ^ n.toNat) with hm | hm
      · have HC := Lib.hid (show crC p n f = 3 by simp [crC, HS.out, HP.out, hm])
        have HV := Lib.hid (show crV p n f = 0 by rw [crV, if_neg (by rw [HC.out]; omega)])
        clear hcnt
        go_enter Try.func4, Try.ntmps4
        go_wp2_with (go_at_call 9; with_reducible refine (calls_bool (specIsRing_any _ _ _ hn hn') HS.out).mono ?_)
        rintro _ w1 ⟨rfl, hb1⟩
        obtain ⟨c1, c2⟩ := box_cells hb1
        have HR1 := Lib.hid (HR.out.step hb1)
        have HB1 := Lib.hid (show Below w.heap.size w w1 from (below_box _).trans (hb1.mono (by simp)))
        clear hb1
        go_wp2_with (first | (go_at_call 10; ((with_reducible refine (calls_bool (sIsPolynomial_any HR1.out) HP.out).mono ?_); rintro e w' ⟨rfl, rfl⟩)) | (go_at_call 11; ((with_reducible refine (l02Modulus_ring _ _ _ HS.out).mono ?_); rintro e w' ⟨rfl, rfl⟩)))
        go_ret2
        exact ⟨by rw [HC.out, HV.out]; rfl, HB1.out⟩
      · have HC := Lib.hid (show crC p n f = 0 by simp [crC, HS.out, HP.out]; omega)
        have HV := Lib.hid (show crV p n f = (rbS p n f : Int) by rw [crV, if_pos HC.out])
        obtain ⟨M, hM⟩ : ∃ M : Nat, p.toNat ^ n.toNat = M := ⟨_, rfl⟩
        have hM2 : p ^ n.toNat = (M : Int) := by rw [← hM, Int.natCast_pow, Int.toNat_of_nonneg (by omega)]
        have HMO := Lib.hid (fun w => l02Modulus_ring p n w HS.out)
        rw [hM, hM2] at hcnt
        rw [hM2] at hm r3 HMO
        have HCN := Lib.hid hcnt
        clear hcnt hM hM2
        go_enter Try.func4, Try.ntmps4
        go_wp2_with (go_at_call 9; with_reducible refine (calls_bool (specIsRing_any _ _ _ hn hn') HS.out).mono ?_)
        rintro _ w1 ⟨rfl, hb1⟩
        obtain ⟨c1, c2⟩ := box_cells hb1
        have HR1 := Lib.hid (HR.out.step hb1)
        have HB1 := Lib.hid (show Below w.heap.size w w1 from (below_box _).trans (hb1.mono (by simp)))
        clear hb1
        go_wp2_with (first | (go_at_call 10; ((with_reducible refine (calls_bool (sIsPolynomial_any HR1.out) HP.out).mono ?_); rintro e w' ⟨rfl, rfl⟩)) | (go_at_call 11; ((with_reducible refine (HMO.out _).mono ?_); rintro e w' ⟨rfl, rfl⟩)))
        go_loop [7, 8] (fun y c => ∃ k : Nat, c = .int .i64 (k : Int) ∧ k ≤ M ∧ y = .int .i64 ((cntL (fun x => decide (valM M f x = 0)) k : Nat) : Int)) (fun _ c => M - (intOf c).toNat)
        case atStart => exact ⟨0, rfl, by omega, rfl⟩
        case round =>
          obtain ⟨k, rfl, hk, rfl⟩ := hrel
          have hle := cntL_le (fun x : Nat => decide (valM M f x = 0)) k
          by_cases hlt : k < M
          · by_cases hv : valM M f k = 0
            · have HN := Lib.hid (show cntL (fun x : Nat => decide (valM M f x = 0)) (k + 1) = cntL (fun x : Nat => decide (valM M f x = 0)) k + 1 by rw [cntL, if_pos (by simpa using hv)])
              have HV0 := Lib.hid hv
              clear hv
              generalize cntL (fun x : Nat => decide (valM M f x = 0)) k = c0 at *
              go_wp2_with (go_at_call 12; ((with_reducible refine (calls_int (l11Value_any HR1.out HF.out ⟨by omega, by omega⟩ ⟨by omega, by omega⟩ (by omega)) HV0.out).mono ?_); rintro e w' ⟨rfl, rfl⟩))
              go_round
              case rel => exact ⟨k + 1, by go_num, by omega, by rw [HN.out]; go_num⟩
              case measure => first | (simp [intOf]; done) | (simp [intOf]; omega)
            · have HN := Lib.hid (show cntL (fun x : Nat => decide (valM M f x = 0)) (k + 1) = cntL (fun x : Nat => decide (valM M f x = 0)) k by rw [cntL, if_neg (by simpa using hv)])
              have hvb : (valM M f k == 0) = false := by simpa using hv
              clear hv
              generalize cntL (fun x : Nat => decide (valM M f x = 0)) k = c0 at *
              go_wp2_with (go_at_call 12; ((with_reducible refine (l11Value_any HR1.out HF.out ⟨by omega, by omega⟩ ⟨by omega, by omega⟩ (by omega)).mono ?_); rintro e w' ⟨rfl, rfl⟩))
              go_round
              case rel => exact ⟨k + 1, by go_num, by omega, by rw [HN.out]⟩
              case measure => first | (simp [intOf]; done) | (simp [intOf]; omega)
          · have HE := Lib.hid (show cntL (fun x : Nat => decide (valM M f x = 0)) k = rbS p n f by rw [← HCN.out, show M = k by omega])
            go_wp2
            go_ret2
            exact ⟨by rw [HC.out, HV.out, HE.out]; rfl, HB1.out⟩
    · have HP := Lib.hid hp
      clear hp
      go_enter Try.func4, Try.ntmps4
      go_wp2_with (go_at_call 9; with_reducible refine (calls_bool (specIsRing_any _ _ _ hn hn') HS.out).mono ?_)
      rintro _ w1 ⟨rfl, hb1⟩
      have HR1 := Lib.hid (HR.out.step hb1)
      go_wp2_with (go_at_call 10; ((with_reducible refine (calls_bool (sIsPolynomial_any HR1.out) HP.out).mono ?_); rintro e w' ⟨rfl, rfl⟩))
      go_ret2
      exact ⟨by simp [crV, crC, HS.out, HP.out], (by repeat (first | assumption | exact Below.refl _ _ | exact below_box _ | refine Below.drew ?_ | refine Below.setCell ?_ (by first | (simp; done) | (simp; omega)) _ | (refine below_step (by assumption) (by first | omega | (simp; done) | (simp; omega)) ?_) | (refine Below.alloc ?_ (by first | omega | (simp; done) | (simp; omega)) _)))⟩
  · have HS := Lib.hid hs
    clear hs
    go_enter Try.func4, Try.ntmps4
    go_wp2_with (go_at_call 9; with_reducible refine (calls_bool (specIsRing_any _ _ _ hn hn') HS.out).mono ?_)
    rintro _ w1 ⟨rfl, hb1⟩
    go_wp2
    go_ret2
    exact ⟨by simp [crV, crC, HS.out], (by repeat (first | assumption | exact Below.refl _ _ | exact below_box _ | refine Below.drew ?_ | refine Below.setCell ?_ (by first | (simp; done) | (simp; omega)) _ | (refine below_step (by assumption) (by first | omega | (simp; done) | (simp; omega)) ?_) | (refine Below.alloc ?_ (by first | omega | (simp; done) | (simp; omega)) _)))⟩

end Go.Proofs.Ytekgafnidanihaa
