/- Contracts: points and corners, both. -/
import Derived.Test.YtggojomooodlgaaKc
namespace Go.Proofs.Ytggojomooodlgaa
open Go.RowKit
set_option linter.unusedVariables false
set_option linter.unusedSimpArgs false

set_option maxHeartbeats 2000000 in
theorem points_any {p : Int} {v : Value} {f : List Int} {w : World} (h : Reads w v f) (hp : 2 ≤ p ∧ p ≤ 97) (hf : Bd 1000000 f) (hl : f.length ≤ 9) :
    Calls Try.prog 47 #[.int .i64 p, v] w (RetC (ptA p f) w) := by
  obtain ⟨a, cap, rfl, h1, h2⟩ := reads_nil_eq h
  obtain ⟨N, hN⟩ : ∃ N, f.length = N := ⟨_, rfl⟩
  have hA : ptA p f = ptsL p f N := by rw [ptA, hN]
  rw [hN] at h h1 hl ⊢
  rw [hA]
  have HN := Lib.hid hN
  have HR := Lib.hid h
  have HF := Lib.hid hf
  clear h h2 hN hf hA
  go_enter Try.func47, Try.ntmps47
  go_wp2
  go_loopw [5, 10] (fun l c wr => ∃ k : Nat, c = .int .i64 (k : Int) ∧ k ≤ N ∧ OwnC wr w.heap.size l (ptsL p f k) ∧ Below w.heap.size w wr) (fun _ c _ => N - (intOf c).toNat)
  case atStart => exact ⟨0, rfl, by omega, RowOwn.nil, Below.refl _ _⟩
  case round =>
    obtain ⟨k, rfl, hk, hown, hbel⟩ := hrel
    have HO := Lib.hid hown
    have HW := Lib.hid hbel
    have hsw := hbel.size
    clear hown hbel
    have HR1 := Lib.hid (HR.out.step HW.out)
    by_cases hlt : k < N
    · obtain ⟨b, o, rfl, hc⟩ := HR1.out.at (k := k) (by rw [HN.out]; exact hlt)
      have hL : (ptsL p f k).length ≤ 1000000 := by have := ptsL_len p f k; omega
      by_cases hz : el f k = 0
      · have HX := Lib.hid (ptsL_next0 (p := p) hz)
        rw [hz] at hc
        go_wp2
        go_roundw
        case rel => exact ⟨k + 1, by go_num, by omega, by rw [HX.out]; exact HO.out, HW.out⟩
        case measure => simp [intOf]; omega
      · have HX := Lib.hid (ptsL_next (p := p) hz)
        have HZ := Lib.hid hz
        have hzb : (el f k == 0) = false := by simpa using hz
        have hb := HF.out k
        clear hz
        go_wp2_with (first | (go_at_call 56; ((with_reducible refine (valuation_any _ _ _ HZ.out (by omega) (by omega) hp.1 (by omega)).mono ?_); rintro e w' ⟨rfl, rfl⟩)) | (at_builtin; refine append_row infoC Try.underlying43 rfl (by omega) (by omega) cC_len cC_one _ rfl _ _ rfl (n := ((k : Int), (vp p (el f k) : Int))) rfl rfl HO.out hL hsw rfl rfl ?_))
        intro vv w1 hown1 hg1 hbel1
        rw [← HX.out] at hown1
        have HO1 := Lib.hid hown1
        have HW1 := Lib.hid (HW.out.trans hbel1)
        clear hown1 hg1 hbel1
        go_wp2
        go_roundw
        case rel => exact ⟨k + 1, by go_num, by omega, HO1.out, HW1.out⟩
        case measure => simp [intOf]; omega
    · obtain rfl : k = N := by omega
      go_wp2
      go_ret
      exact ⟨_, rfl, HO.out, HW.out⟩
set_option maxHeartbeats 2000000 in
theorem l13Points_any {p : Int} {v : Value} {f : List Int} {w : World} (h : Reads w v f) (hp : 2 ≤ p ∧ p ≤ 97) (hf : Bd 1000000 f) (hl : f.length ≤ 9) :
    Calls Try.prog 42 #[.int .i64 p, v] w (RetC (ptA p f) w) := by
  obtain ⟨a, cap, rfl, h1, h2⟩ := reads_nil_eq h
  obtain ⟨N, hN⟩ : ∃ N, f.length = N := ⟨_, rfl⟩
  have hA : ptA p f = ptsL p f N := by rw [ptA, hN]
  rw [hN] at h h1 hl ⊢
  rw [hA]
  have HN := Lib.hid hN
  have HR := Lib.hid h
  have HF := Lib.hid hf
  clear h h2 hN hf hA
  go_enter Try.func42, Try.ntmps42
  go_wp2
  go_loopw [5, 6] (fun l c wr => ∃ k : Nat, c = .int .i64 (k : Int) ∧ k ≤ N ∧ OwnC wr w.heap.size l (ptsL p f k) ∧ Below w.heap.size w wr) (fun _ c _ => N - (intOf c).toNat)
  case atStart => exact ⟨0, rfl, by omega, RowOwn.empty (Nat.le_refl _), below_box _⟩
  case round =>
    obtain ⟨k, rfl, hk, hown, hbel⟩ := hrel
    have HO := Lib.hid hown
    have HW := Lib.hid hbel
    have hsw := hbel.size
    clear hown hbel
    have HR1 := Lib.hid (HR.out.step HW.out)
    by_cases hlt : k < N
    · obtain ⟨b, o, rfl, hc⟩ := HR1.out.at (k := k) (by rw [HN.out]; exact hlt)
      have hL : (ptsL p f k).length ≤ 1000000 := by have := ptsL_len p f k; omega
      by_cases hz : el f k = 0
      · have HX := Lib.hid (ptsL_next0 (p := p) hz)
        rw [hz] at hc
        go_wp2
        go_roundw
        case rel => exact ⟨k + 1, by go_num, by omega, by rw [HX.out]; exact HO.out, HW.out⟩
        case measure => simp [intOf]; omega
      · have HX := Lib.hid (ptsL_next (p := p) hz)
        have HZ := Lib.hid hz
        have hzb : (el f k == 0) = false := by simpa using hz
        have hb := HF.out k
        clear hz
        go_wp2_with (first | (go_at_call 28; ((with_reducible refine (l01Valuation_any _ _ _ HZ.out (by omega) (by omega) hp.1 (by omega)).mono ?_); rintro e w' ⟨rfl, rfl⟩)) | (at_builtin; refine append_row infoC Try.underlying43 rfl (by omega) (by omega) cC_len cC_one _ rfl _ _ rfl (n := ((k : Int), (vp p (el f k) : Int))) rfl rfl HO.out hL hsw rfl rfl ?_))
        intro vv w1 hown1 hg1 hbel1
        rw [← HX.out] at hown1
        have HO1 := Lib.hid hown1
        have HW1 := Lib.hid (HW.out.trans hbel1)
        clear hown1 hg1 hbel1
        go_wp2
        go_roundw
        case rel => exact ⟨k + 1, by go_num, by omega, HO1.out, HW1.out⟩
        case measure => simp [intOf]; omega
    · obtain rfl : k = N := by omega
      go_wp2
      go_ret
      exact ⟨_, rfl, HO.out, HW.out⟩

end Go.Proofs.Ytggojomooodlgaa
