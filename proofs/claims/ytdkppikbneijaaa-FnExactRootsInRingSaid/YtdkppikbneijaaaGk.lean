/- Contracts: RootsInRing, both. -/
import Derived.Test.YtdkppikbneijaaaGj
namespace Go.Proofs.Ytdkppikbneijaaa
open Go.RowKit
set_option linter.unusedVariables false
set_option linter.unusedSimpArgs false

def rrC (p n : Int) (f : List Int) : Int := if ringB p n && polyB f then if 60 < rbS p n f then 3 else 0 else 1
def rrV (p n : Int) (f : List Int) : List Int := if rrC p n f = 0 then rootsR p n.toNat f else []
theorem deep_any {p : Int} {K : Nat} {f : List Int} (hr : ringB p (K : Int) = true) (hf : Bd 8000000 f) (hl : f.length ≤ 9) : ∀ j, DeepAt p K f j
  | 0 => deep_zero hr hf hl
  | j + 1 => deep_step hr hf hl j (deep_any hr hf hl j)
theorem l11Roots_any {p n : Int} {v : Value} {f : List Int} {w : World} (h : Reads w v f) (hr : ringB p n = true) (hf : Bd 8000000 f) (hl : f.length ≤ 9) :
    Calls Try.prog 13 #[.agg #[.int .i64 p, .int .i64 n], v] w (RetDeep p n.toNat f n.toNat 0 1 w) := by
  obtain ⟨⟨p1, p2⟩, ⟨n1, n2⟩, r2, r3⟩ := ring_bd hr
  have hd := deep_any (p := p) (K := n.toNat) (f := f) (by rw [Int.toNat_of_nonneg (by omega)]; exact hr) hf hl n.toNat
  have HD := Lib.hid (show ∀ (v : Value) (w : World), Reads w v f → Calls Try.prog 21 #[.agg #[.int .i64 p, .int .i64 n], v, .int .i64 0, .int .i64 1, .int .i64 0] w (RetDeep p n.toNat f n.toNat 0 1 w) from fun v w hR => by
    have := hd 0 0 1 v w hR (by omega) (by simp) (by omega) (by omega)
    rwa [Int.toNat_of_nonneg (by omega)] at this)
  have HR := Lib.hid (h.step (below_box (.cells #[.int .i64 p, .int .i64 n] 27)))
  clear h hr hf hd
  go_enter Try.func13, Try.ntmps13
  go_wp2_with (go_at_call 21; with_reducible refine (HD.out _ _ HR.out).mono ?_)
  rintro _ w2 ⟨v2, L2, b2, rfl, o2, hb2, h5⟩
  have hs2 := hb2.size
  simp at hs2
  have HO := Lib.hid o2
  have HB := Lib.hid hb2
  have H5 := Lib.hid h5
  clear o2 hb2 h5
  go_wp2
  go_ret2
  exact ⟨v2, L2, b2, rfl, HO.out.mono (by simp), (below_box _).trans (HB.out.mono (by simp)), H5.out⟩

set_option maxHeartbeats 2000000 in
theorem sRootsInRing_any {p n : Int} {v : Value} {f : List Int} {w : World} (h : Reads w v f) (hn : n ≤ 9223372036854775807) (hn' : -9223372036854775808 ≤ n) :
    Calls Try.prog 4 #[.agg #[.int .i64 p, .int .i64 n], v] w (RetIC (rrV p n f) (rrC p n f) w) := by
  have HR := Lib.hid (h.step (below_box (.cells #[.int .i64 p, .int .i64 n] 27)))
  clear h
  rcases Bool.eq_false_or_eq_true (ringB p n) with hs | hs
  · have HS := Lib.hid hs
    have hdp := deep_perm hs f
    have hrl := rootsR_len hs f
    obtain ⟨⟨p1, p2⟩, r2, r3⟩ := ring_bd hs
    clear hs
    rcases Bool.eq_false_or_eq_true (polyB f) with hp | hp
    · have HP := Lib.hid hp
      obtain ⟨p9, hfb, _⟩ := polyB_bd hp
      have HF := Lib.hid (Bd.of (show (0 : Int) ≤ 8000000 by omega) (fun x hx => by have := hfb x hx; omega))
      have hdl := hdp.length_eq
      have HSI := Lib.hid (sort_is (rootsR_rise p n.toNat f) hdp)
      clear hp hfb hdp
      go_enter Try.func4, Try.ntmps4
      go_wp2_with (go_at_call 11; with_reducible refine (calls_bool (specIsRing_any _ _ _ hn hn') HS.out).mono ?_)
      rintro _ w1 ⟨rfl, hb1⟩
      obtain ⟨c1, c2⟩ := box_cells hb1
      have HR1 := Lib.hid (HR.out.step hb1)
      have HB1 := Lib.hid (show Below w.heap.size w w1 from (below_box _).trans (hb1.mono (by simp)))
      clear hb1
      go_wp2_with (first | (go_at_call 12; ((with_reducible refine (calls_bool (sIsPolynomial_any HR1.out) HP.out).mono ?_); rintro e w' ⟨rfl, rfl⟩)) | (go_at_call 13; with_reducible refine (l11Roots_any HR1.out HS.out HF.out p9).mono ?_))
      rintro _ w2 ⟨v2, L2, b2, rfl, o2, hb2, hl2, ht2, hf2⟩
      have HB2 := Lib.hid (HB1.out.trans (hb2.mono HB1.out.size))
      have HO2 := Lib.hid o2
      clear o2 hb2
      rcases Bool.eq_false_or_eq_true b2 with hb | hb
      · subst hb
        obtain ⟨hL, h60⟩ := ht2 rfl
        have HC := Lib.hid (show rrC p n f = 0 by simp only [rrC, HS.out, HP.out, Bool.and_self, if_true]; rw [if_neg]; rw [hL] at h60; omega)
        have HV := Lib.hid (show rrV p n f = rootsR p n.toNat f by rw [rrV, if_pos HC.out])
        subst hL
        clear ht2 hf2 h60
        go_wp2_with (go_at_call 14; with_reducible refine (l11Sorted_any HO2.out.reads).mono ?_)
        rintro _ w3 ⟨v3, rfl, o3, hb3⟩
        go_wp2
        go_ret2
        exact ⟨v3, by rw [HC.out]; rfl, by rw [HV.out, ← HSI.out]; exact o3.mono HB2.out.size, HB2.out.trans (hb3.mono HB2.out.size)⟩
      · subst hb
        have h60 := hf2 rfl
        have HC := Lib.hid (show rrC p n f = 3 by simp only [rrC, HS.out, HP.out, Bool.and_self, if_true]; rw [if_pos]; omega)
        have HV := Lib.hid (show rrV p n f = [] by rw [rrV, if_neg (by rw [HC.out]; omega)])
        clear ht2 hf2 h60
        go_wp2
        go_ret2
        exact ⟨.slice none 0 0, by rw [HC.out]; rfl, by rw [HV.out]; exact Own.nil, HB2.out⟩
    · have HP := Lib.hid hp
      clear hp hdp hrl
      go_enter Try.func4, Try.ntmps4
      go_wp2_with (go_at_call 11; with_reducible refine (calls_bool (specIsRing_any _ _ _ hn hn') HS.out).mono ?_)
      rintro _ w1 ⟨rfl, hb1⟩
      have HR1 := Lib.hid (HR.out.step hb1)
      go_wp2_with (go_at_call 12; ((with_reducible refine (calls_bool (sIsPolynomial_any HR1.out) HP.out).mono ?_); rintro e w' ⟨rfl, rfl⟩))
      go_ret2
      exact ⟨.slice none 0 0, by simp [rrC, HS.out, HP.out], by simpa [rrV, rrC, HS.out, HP.out] using Own.nil, (by repeat (first | assumption | exact Below.refl _ _ | exact below_box _ | refine Below.drew ?_ | refine Below.setCell ?_ (by first | (simp; done) | (simp; omega)) _ | (refine below_step (by assumption) (by first | omega | (simp; done) | (simp; omega)) ?_) | (refine Below.alloc ?_ (by first | omega | (simp; done) | (simp; omega)) _)))⟩
  · have HS := Lib.hid hs
    clear hs
    go_enter Try.func4, Try.ntmps4
    go_wp2_with (go_at_call 11; with_reducible refine (calls_bool (specIsRing_any _ _ _ hn hn') HS.out).mono ?_)
    rintro _ w1 ⟨rfl, hb1⟩
    go_wp2
    go_ret2
    exact ⟨.slice none 0 0, by simp [rrC, HS.out], by simpa [rrV, rrC, HS.out] using Own.nil, (by repeat (first | assumption | exact Below.refl _ _ | exact below_box _ | refine Below.drew ?_ | refine Below.setCell ?_ (by first | (simp; done) | (simp; omega)) _ | (refine below_step (by assumption) (by first | omega | (simp; done) | (simp; omega)) ?_) | (refine Below.alloc ?_ (by first | omega | (simp; done) | (simp; omega)) _)))⟩

end Go.Proofs.Ytdkppikbneijaaa
