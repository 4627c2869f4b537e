/- Contracts: ResidualOf and IsRegular, both. -/
import Derived.Test.YtggojomooodlgaaKi
namespace Go.Proofs.Ytggojomooodlgaa
open Go.RowKit
set_option linter.unusedVariables false
set_option linter.unusedSimpArgs false

def regC (p : Int) (f : List Int) : Int := if smallB p && polyB f then if decide (f.length < 2) || el f 0 == 0 then 5 else 0 else 1
theorem regC_ok {p : Int} {f : List Int} (h : regC p f = 0) : smallB p = true ∧ polyB f = true ∧ 2 ≤ f.length ∧ el f 0 ≠ 0 := by
  unfold regC at h
  split at h
  · split at h
    · omega
    · rename_i h1 h2
      simp at h1 h2
      exact ⟨h1.1, h1.2, by omega, h2.2⟩
  · omega
theorem reg_facts {p : Int} {f : List Int} (h : regC p f = 0) : (2 ≤ p ∧ p ≤ 97) ∧ Bd 1000000 f ∧ f.length ≤ 9 ∧ ptA p f ≠ [] ∧ (sloA p f).length = (polA p f).length - 1 ∧ (sloA p f).length ≤ 9 := by
  obtain ⟨h1, h2, h3, h4⟩ := regC_ok h
  obtain ⟨k1, k2, _⟩ := polyB_bd h2
  have hl := (polA_ok p f).2.2
  have hs := sloL_len (polA p f) ((polA p f).length - 1)
  exact ⟨small_bd h1, Bd.of (by omega) k2, k1, ptsL_ne h4 _ (by omega), hs, by rw [show (sloA p f).length = _ from hs]; omega⟩

theorem residual_any {p : Int} {v : Value} {f : List Int} {w : World} (h : Reads w v f) :
    Calls Try.prog 17 #[.int .i64 p, v] w fun e w' => e = .returned (.int .i64 (regC p f)) ∧ w = w' := by
  obtain ⟨a, cap, rfl, h1, h2⟩ := reads_nil_eq h
  obtain ⟨n, hn⟩ : ∃ n, f.length = n := ⟨_, rfl⟩
  rw [hn] at h h1 ⊢
  have HN := Lib.hid hn
  have HR := Lib.hid h
  have hlm := h.1
  rw [hn] at hlm
  clear h h2 hn
  rcases Bool.eq_false_or_eq_true (smallB p) with hs | hs
  · have HS := Lib.hid hs
    rcases Bool.eq_false_or_eq_true (polyB f) with hp | hp
    · have HP := Lib.hid hp
      by_cases hl : n < 2
      · have HC := Lib.hid (show regC p f = 5 by simp [regC, hs, hp, HN.out, hl])
        clear hs hp
        go_enter Try.func17, Try.ntmps17
        go_wp2_with (first | (go_at_call 30; ((with_reducible refine (calls_bool (isSmallPrime_any _ _) HS.out).mono ?_); rintro e w' ⟨rfl, rfl⟩)) | (go_at_call 31; ((with_reducible refine (calls_bool (IsPolynomial_any HR.out) HP.out).mono ?_); rintro e w' ⟨rfl, rfl⟩)))
        go_ret
        exact ⟨ret_int HC.out.symm, rfl⟩
      · obtain ⟨b, o, rfl, hc⟩ := HR.out.at (k := 0) (by rw [HN.out]; omega)
        have HC := Lib.hid (show regC p f = if el f 0 = 0 then 5 else 0 by simp [regC, hs, hp, HN.out, hl])
        clear hs hp
        generalize el f 0 = c at *
        simp only [Nat.add_zero] at hc
        have h0 : (0 : Int) < (n : Int) := by omega
        have h0' : 0 < n := by omega
        by_cases hz : c = 0
        · subst hz
          go_enter Try.func17, Try.ntmps17
          go_wp2_with (first | (go_at_call 30; ((with_reducible refine (calls_bool (isSmallPrime_any _ _) HS.out).mono ?_); rintro e w' ⟨rfl, rfl⟩)) | (go_at_call 31; ((with_reducible refine (calls_bool (IsPolynomial_any HR.out) HP.out).mono ?_); rintro e w' ⟨rfl, rfl⟩)))
          go_ret
          exact ⟨ret_int (by rw [HC.out]; simp), rfl⟩
        · have hz' : (c == 0) = false := by simpa using hz
          go_enter Try.func17, Try.ntmps17
          go_wp2_with (first | (go_at_call 30; ((with_reducible refine (calls_bool (isSmallPrime_any _ _) HS.out).mono ?_); rintro e w' ⟨rfl, rfl⟩)) | (go_at_call 31; ((with_reducible refine (calls_bool (IsPolynomial_any HR.out) HP.out).mono ?_); rintro e w' ⟨rfl, rfl⟩)))
          go_ret
          exact ⟨ret_int (by rw [HC.out, if_neg hz]), rfl⟩
    · have HP := Lib.hid hp
      have HC := Lib.hid (show regC p f = 1 by simp [regC, hp])
      clear hs hp
      go_enter Try.func17, Try.ntmps17
      go_wp2_with (first | (go_at_call 30; ((with_reducible refine (calls_bool (isSmallPrime_any _ _) HS.out).mono ?_); rintro e w' ⟨rfl, rfl⟩)) | (go_at_call 31; ((with_reducible refine (calls_bool (IsPolynomial_any HR.out) HP.out).mono ?_); rintro e w' ⟨rfl, rfl⟩)))
      go_ret
      exact ⟨ret_int HC.out.symm, rfl⟩
  · have HS := Lib.hid hs
    have HC := Lib.hid (show regC p f = 1 by simp [regC, hs])
    clear hs
    go_enter Try.func17, Try.ntmps17
    go_wp2_with (go_at_call 30; ((with_reducible refine (calls_bool (isSmallPrime_any _ _) HS.out).mono ?_); rintro e w' ⟨rfl, rfl⟩))
    go_ret
    exact ⟨ret_int HC.out.symm, rfl⟩
theorem l14Code_any {p : Int} {v : Value} {f : List Int} {w : World} (h : Reads w v f) :
    Calls Try.prog 13 #[.int .i64 p, v] w fun e w' => e = .returned (.int .i64 (regC p f)) ∧ w = w' := by
  obtain ⟨a, cap, rfl, h1, h2⟩ := reads_nil_eq h
  obtain ⟨n, hn⟩ : ∃ n, f.length = n := ⟨_, rfl⟩
  rw [hn] at h h1 ⊢
  have HN := Lib.hid hn
  have HR := Lib.hid h
  have hlm := h.1
  rw [hn] at hlm
  clear h h2 hn
  rcases Bool.eq_false_or_eq_true (smallB p) with hs | hs
  · have HS := Lib.hid hs
    rcases Bool.eq_false_or_eq_true (polyB f) with hp | hp
    · have HP := Lib.hid hp
      by_cases hl : n < 2
      · have HC := Lib.hid (show regC p f = 5 by simp [regC, hs, hp, HN.out, hl])
        clear hs hp
        go_enter Try.func13, Try.ntmps13
        go_wp2_with (first | (go_at_call 24; ((with_reducible refine (calls_bool (l01Small_any _ _) HS.out).mono ?_); rintro e w' ⟨rfl, rfl⟩)) | (go_at_call 25; ((with_reducible refine (calls_bool (sIsPolynomial_any HR.out) HP.out).mono ?_); rintro e w' ⟨rfl, rfl⟩)))
        go_ret
        exact ⟨ret_int HC.out.symm, rfl⟩
      · obtain ⟨b, o, rfl, hc⟩ := HR.out.at (k := 0) (by rw [HN.out]; omega)
        have HC := Lib.hid (show regC p f = if el f 0 = 0 then 5 else 0 by simp [regC, hs, hp, HN.out, hl])
        clear hs hp
        generalize el f 0 = c at *
        simp only [Nat.add_zero] at hc
        have h0 : (0 : Int) < (n : Int) := by omega
        have h0' : 0 < n := by omega
        by_cases hz : c = 0
        · subst hz
          go_enter Try.func13, Try.ntmps13
          go_wp2_with (first | (go_at_call 24; ((with_reducible refine (calls_bool (l01Small_any _ _) HS.out).mono ?_); rintro e w' ⟨rfl, rfl⟩)) | (go_at_call 25; ((with_reducible refine (calls_bool (sIsPolynomial_any HR.out) HP.out).mono ?_); rintro e w' ⟨rfl, rfl⟩)))
          go_ret
          exact ⟨ret_int (by rw [HC.out]; simp), rfl⟩
        · have hz' : (c == 0) = false := by simpa using hz
          go_enter Try.func13, Try.ntmps13
          go_wp2_with (first | (go_at_call 24; ((with_reducible refine (calls_bool (l01Small_any _ _) HS.out).mono ?_); rintro e w' ⟨rfl, rfl⟩)) | (go_at_call 25; ((with_reducible refine (calls_bool (sIsPolynomial_any HR.out) HP.out).mono ?_); rintro e w' ⟨rfl, rfl⟩)))
          go_ret
          exact ⟨ret_int (by rw [HC.out, if_neg hz]), rfl⟩
    · have HP := Lib.hid hp
      have HC := Lib.hid (show regC p f = 1 by simp [regC, hp])
      clear hs hp
      go_enter Try.func13, Try.ntmps13
      go_wp2_with (first | (go_at_call 24; ((with_reducible refine (calls_bool (l01Small_any _ _) HS.out).mono ?_); rintro e w' ⟨rfl, rfl⟩)) | (go_at_call 25; ((with_reducible refine (calls_bool (sIsPolynomial_any HR.out) HP.out).mono ?_); rintro e w' ⟨rfl, rfl⟩)))
      go_ret
      exact ⟨ret_int HC.out.symm, rfl⟩
  · have HS := Lib.hid hs
    have HC := Lib.hid (show regC p f = 1 by simp [regC, hs])
    clear hs
    go_enter Try.func13, Try.ntmps13
    go_wp2_with (go_at_call 24; ((with_reducible refine (calls_bool (l01Small_any _ _) HS.out).mono ?_); rintro e w' ⟨rfl, rfl⟩))
    go_ret
    exact ⟨ret_int HC.out.symm, rfl⟩

/-! ### ResidualOf -/
def rofC (p : Int) (f : List Int) (i : Int) : Int := if regC p f = 0 then if inB i 0 ((sloA p f).length - 1) then 0 else 2 else regC p f
def rofL (p : Int) (f : List Int) (i : Int) : List Int := if rofC p f i = 0 then resA p f i.toNat else []
theorem size_Slope_any {lo : Nat} {v : Value} {L : List (Int × Int × Int)} {w : World} (h : OwnS w lo v L) (hl : L.length ≤ 1000000) :
    Calls Try.prog 19 #[v] w fun e w' => e = .returned (.int .i64 L.length) ∧ w = w' := by
  obtain ⟨a, cap, rfl, h1, h2⟩ := OwnS.open h
  clear h h2
  go_enter Try.func19, Try.ntmps19
  go_wp2
  go_ret
  exact ⟨rfl, rfl⟩
theorem idx_nat {i : Int} {n : Nat} (h : inB i 0 ((n : Int) - 1) = true) : ∃ k : Nat, i = k ∧ k < n := by
  obtain ⟨h1, h2⟩ := inB_iff.1 h
  exact ⟨i.toNat, by omega, by omega⟩

set_option maxHeartbeats 2000000 in
theorem ResidualOf_any {p i : Int} {v : Value} {f : List Int} {w : World} (h : Reads w v f) (hi : -9223372036854775808 ≤ i ∧ i ≤ 9223372036854775807) :
    Calls Try.prog 7 #[.int .i64 p, v, .int .i64 i] w (RetIC (rofL p f i) (rofC p f i) w) := by
  have HR := Lib.hid h
  clear h
  by_cases hc : regC p f = 0
  · have HC := Lib.hid hc
    obtain ⟨hp, hf, hl, hne, hs, hs9⟩ := reg_facts hc
    have HF := Lib.hid hf
    have HS := Lib.hid hs
    clear hc hf hne hs
    obtain ⟨n, hn⟩ : ∃ n, (sloA p f).length = n := ⟨_, rfl⟩
    have HN := Lib.hid hn
    rw [hn] at hs9
    clear hn
    rcases Bool.eq_false_or_eq_true (inB i 0 ((n : Int) - 1)) with hb | hb
    · have HB := Lib.hid hb
      obtain ⟨k, rfl, hk⟩ := idx_nat hb
      have HE := Lib.hid (show rofC p f (k : Int) = 0 by rw [rofC, if_pos HC.out, HN.out, hb]; rfl)
      clear hb
      go_enter Try.func7, Try.ntmps7
      go_wp2_with (first | (go_at_call 17; ((with_reducible refine (calls_int (residual_any HR.out) HC.out).mono ?_); rintro e w' ⟨rfl, rfl⟩)) | (go_at_call 20; with_reducible refine (slopes_any HR.out hp HF.out hl).mono ?_))
      rintro _ w1 ⟨v1, rfl, o1, hb1⟩
      have HO := Lib.hid o1
      have HB1 := Lib.hid hb1
      clear o1 hb1
      go_wp2_with (first | (go_at_call 19; ((with_reducible refine (calls_int (size_Slope_any HO.out (by rw [HN.out]; omega)) (congrArg Nat.cast HN.out)).mono ?_); rintro e w' ⟨rfl, rfl⟩)) | (go_at_call 18; ((with_reducible refine (calls_bool (within_any _ _ _ _) HB.out).mono ?_); rintro e w' ⟨rfl, rfl⟩)) | (go_at_call 21; with_reducible refine (residualOf_any (HR.out.step HB1.out) hp HF.out hl (by have := HS.out; have := HN.out; omega)).mono ?_))
      rintro _ w2 ⟨v2, rfl, o2, hb2⟩
      go_wp2
      go_ret2
      exact ⟨v2, by simp [HE.out], by simpa [rofL, HE.out] using o2.mono HB1.out.size, HB1.out.trans (hb2.mono HB1.out.size)⟩
    · have HB := Lib.hid hb
      have HE := Lib.hid (show rofC p f i = 2 by rw [rofC, if_pos HC.out, HN.out, hb]; rfl)
      clear hb
      go_enter Try.func7, Try.ntmps7
      go_wp2_with (first | (go_at_call 17; ((with_reducible refine (calls_int (residual_any HR.out) HC.out).mono ?_); rintro e w' ⟨rfl, rfl⟩)) | (go_at_call 20; with_reducible refine (slopes_any HR.out hp HF.out hl).mono ?_))
      rintro _ w1 ⟨v1, rfl, o1, hb1⟩
      have HO := Lib.hid o1
      have HB1 := Lib.hid hb1
      clear o1 hb1
      go_wp2_with (first | (go_at_call 19; ((with_reducible refine (calls_int (size_Slope_any HO.out (by rw [HN.out]; omega)) (congrArg Nat.cast HN.out)).mono ?_); rintro e w' ⟨rfl, rfl⟩)) | (go_at_call 18; ((with_reducible refine (calls_bool (within_any _ _ _ _) HB.out).mono ?_); rintro e w' ⟨rfl, rfl⟩)))
      go_ret2
      exact ⟨.slice none 0 0, by simp [HE.out], by simpa [rofL, HE.out] using Own.nil, HB1.out⟩
  · have hc' : (regC p f != 0) = true := by simpa using hc
    have HE := Lib.hid (show rofC p f i = regC p f by rw [rofC, if_neg hc])
    have HC := Lib.hid hc
    generalize hg : regC p f = c at *
    have HG := Lib.hid hg
    clear hg
    go_enter Try.func7, Try.ntmps7
    go_wp2_with (first | (go_at_call 17; ((with_reducible refine (calls_int (residual_any HR.out) HG.out).mono ?_); rintro e w' ⟨rfl, rfl⟩)))
    go_ret2
    exact ⟨.slice none 0 0, by simp [HE.out], by have : rofL p f i = [] := by { rw [rofL, HE.out, if_neg HC.out] }
                                                 rw [this]; exact Own.nil, Below.refl _ _⟩
set_option maxHeartbeats 2000000 in
theorem sResidualOf_any {p i : Int} {v : Value} {f : List Int} {w : World} (h : Reads w v f) (hi : -9223372036854775808 ≤ i ∧ i ≤ 9223372036854775807) :
    Calls Try.prog 5 #[.int .i64 p, v, .int .i64 i] w (RetIC (rofL p f i) (rofC p f i) w) := by
  have HR := Lib.hid h
  clear h
  by_cases hc : regC p f = 0
  · have HC := Lib.hid hc
    obtain ⟨hp, hf, hl, hne, hs, hs9⟩ := reg_facts hc
    have HF := Lib.hid hf
    have HS := Lib.hid hs
    have HNE := Lib.hid hne
    clear hc hf hne hs
    obtain ⟨n, hn⟩ : ∃ n, (sloA p f).length = n := ⟨_, rfl⟩
    have HN := Lib.hid hn
    rw [hn] at hs9
    clear hn
    rcases Bool.eq_false_or_eq_true (inB i 0 ((n : Int) - 1)) with hb | hb
    · have HB := Lib.hid hb
      obtain ⟨k, rfl, hk⟩ := idx_nat hb
      have HE := Lib.hid (show rofC p f (k : Int) = 0 by rw [rofC, if_pos HC.out, HN.out, hb]; rfl)
      clear hb
      go_enter Try.func5, Try.ntmps5
      go_wp2_with (first | (go_at_call 13; ((with_reducible refine (calls_int (l14Code_any HR.out) HC.out).mono ?_); rintro e w' ⟨rfl, rfl⟩)) | (go_at_call 15; with_reducible refine (l13Slopes_any HR.out hp HF.out hl HNE.out).mono ?_))
      rintro _ w1 ⟨v1, rfl, o1, hb1⟩
      obtain ⟨a1, c1, rfl, k1, k2⟩ := OwnS.open o1
      rw [HN.out] at o1 k1 k2 ⊢
      have HB1 := Lib.hid hb1
      clear o1 hb1 k2
      go_wp2_with (first | (go_at_call 14; ((with_reducible refine (calls_bool (l01In_any _ _ _ _) HB.out).mono ?_); rintro e w' ⟨rfl, rfl⟩)) | (go_at_call 16; with_reducible refine (l14Residual_any (HR.out.step HB1.out) hp HF.out hl (by have := HS.out; have := HN.out; omega) HNE.out).mono ?_))
      rintro _ w2 ⟨v2, rfl, o2, hb2⟩
      go_wp2
      go_ret2
      exact ⟨v2, by simp [HE.out], by simpa [rofL, HE.out] using o2.mono HB1.out.size, HB1.out.trans (hb2.mono HB1.out.size)⟩
    · have HB := Lib.hid hb
      have HE := Lib.hid (show rofC p f i = 2 by rw [rofC, if_pos HC.out, HN.out, hb]; rfl)
      clear hb
      go_enter Try.func5, Try.ntmps5
      go_wp2_with (first | (go_at_call 13; ((with_reducible refine (calls_int (l14Code_any HR.out) HC.out).mono ?_); rintro e w' ⟨rfl, rfl⟩)) | (go_at_call 15; with_reducible refine (l13Slopes_any HR.out hp HF.out hl HNE.out).mono ?_))
      rintro _ w1 ⟨v1, rfl, o1, hb1⟩
      obtain ⟨a1, c1, rfl, k1, k2⟩ := OwnS.open o1
      rw [HN.out] at o1 k1 k2 ⊢
      have HB1 := Lib.hid hb1
      clear o1 hb1 k2
      go_wp2_with (first | (go_at_call 14; ((with_reducible refine (calls_bool (l01In_any _ _ _ _) HB.out).mono ?_); rintro e w' ⟨rfl, rfl⟩)))
      go_ret2
      exact ⟨.slice none 0 0, by simp [HE.out], by simpa [rofL, HE.out] using Own.nil, HB1.out⟩
  · have hc' : (regC p f != 0) = true := by simpa using hc
    have hc2 : (regC p f == 0) = false := by simpa using hc
    have HE := Lib.hid (show rofC p f i = regC p f by rw [rofC, if_neg hc])
    have HC := Lib.hid hc
    generalize hg : regC p f = c at *
    have HG := Lib.hid hg
    clear hg
    go_enter Try.func5, Try.ntmps5
    go_wp2_with (first | (go_at_call 13; ((with_reducible refine (calls_int (l14Code_any HR.out) HG.out).mono ?_); rintro e w' ⟨rfl, rfl⟩)))
    go_ret2
    exact ⟨.slice none 0 0, by simp [HE.out], by have : rofL p f i = [] := by { rw [rofL, HE.out, if_neg HC.out] }
                                                 rw [this]; exact Own.nil, Below.refl _ _⟩

/-! ### IsRegular -/
def regB (p : Int) (f : List Int) (n : Nat) : Bool := (List.range n).all fun k => sqfB p (resA p f k)
theorem regB_all {p : Int} {f : List Int} {n : Nat} (h : ∀ j, j < n → sqfB p (resA p f j) = true) : regB p f n = true := by
  unfold regB; rw [List.all_eq_true]; intro j hj; exact h j (List.mem_range.1 hj)
theorem regB_bad {p : Int} {f : List Int} {n k : Nat} (hk : k < n) (h : sqfB p (resA p f k) = false) : regB p f n = false := by
  rw [Bool.eq_false_iff]
  intro ha
  unfold regB at ha
  rw [List.all_eq_true] at ha
  rw [ha k (List.mem_range.2 hk)] at h
  cases h
theorem resN_in {p : Int} {f : List Int} {a : Int × Int} {s : Int × Int × Int} {n : Nat} (hp : 1 ≤ p) : In p (resN p f a s n) := by
  refine In.of hp fun x hx => ?_
  unfold resN at hx
  obtain ⟨j, _, rfl⟩ := List.mem_map.1 hx
  exact cellR_bd hp _ _
theorem modlB_ofK {p : Int} {f : List Int} (hs : smallB p = true) (hf : In p f) (ht : Tidy f) (hl : f.length ≤ 9) : modlB p f = true := by
  rw [modlB_def, hs, Bool.and_eq_true, Bool.and_eq_true, Bool.and_eq_true]
  refine ⟨⟨⟨rfl, by simpa using hl⟩, ?_⟩, ?_⟩
  · rw [List.all_eq_true]
    intro x hx
    obtain ⟨j, _, rfl⟩ := mem_el hx
    have := hf j
    exact inB_iff.2 ⟨this.1, by omega⟩
  · unfold lastB
    rcases ht with h | h
    · simp [h]
    · simp [h]
theorem res_modl {p : Int} {f : List Int} {i : Nat} (hs : smallB p = true) (hf : Bd 1000000 f) (hl : f.length ≤ 9) (hi : i + 1 < (polA p f).length) : modlB p (resA p f i) = true := by
  obtain ⟨p1, p2⟩ := small_bd hs
  obtain ⟨m, Ax, Ay, r1, r2, r3, d, hm, hsm, hi1, hm9, hga, hgs, hra, hrt, hseg, q1, q2, q3, q4, q5, ⟨q6, q7⟩, ⟨q8, q9⟩, ⟨q10, q11⟩⟩ := piece p1 hf hl hi
  rw [hra]
  have h1 := (hseg d (Nat.le_refl _)).2.1
  have h2 := Int.mul_le_mul_of_nonneg_left q2 (show (0 : Int) ≤ d by omega)
  refine modlB_ofK hs (resN_in (by omega)) (by rw [← hrt]; exact trimL_tidy _) (by rw [resN_len]; omega)

set_option maxHeartbeats 4000000 in
theorem isRegular_any {p : Int} {v : Value} {f : List Int} {w : World} (h : Reads w v f) (hc : regC p f = 0) :
    Calls Try.prog 23 #[.int .i64 p, v] w fun e w' => e = .returned (.bool (regB p f (sloA p f).length)) ∧ Below w.heap.size w w' := by
  have HR := Lib.hid h
  obtain ⟨hp, hf, hl, hne, hs, hs9⟩ := reg_facts hc
  have hsm := (regC_ok hc).1
  have HRM := Lib.hid (fun (k : Nat) (hk : k < (sloA p f).length) => res_modl (i := k) hsm hf hl (by omega))
  have HF := Lib.hid hf
  have HS := Lib.hid hs
  obtain ⟨n, hn⟩ : ∃ n, (sloA p f).length = n := ⟨_, rfl⟩
  rw [hn] at HRM hs9 ⊢
  have HN := Lib.hid hn
  have HSM := Lib.hid hsm
  clear h hc hf hne hs hn hsm
  go_enter Try.func23, Try.ntmps23
  go_wp2_with (go_at_call 20; with_reducible refine (slopes_any HR.out hp HF.out hl).mono ?_)
  rintro _ w1 ⟨v1, rfl, o1, hb1⟩
  obtain ⟨a1, c1, rfl, k1, k2⟩ := OwnS.open o1
  rw [HN.out] at o1 k1 k2 ⊢
  have HB1 := Lib.hid hb1
  have hs1 := hb1.size
  clear o1 hb1 k2
  go_wp2
  go_loopw [11] (fun c wr => ∃ k : Nat, c = .int .i64 (k : Int) ∧ k ≤ n ∧ Hid (∀ j, j < k → sqfB p (resA p f j) = true) ∧ Below w1.heap.size w1 wr) (fun c _ => n - (intOf c).toNat)
  case atStart => exact ⟨0, rfl, by omega, fun j hj => by omega, Below.refl _ _⟩
  case round =>
    obtain ⟨k, rfl, hk, HJ, hbel⟩ := hrel
    have HW := Lib.hid (HB1.out.trans (hbel.mono hs1))
    have HW1 := Lib.hid hbel
    have hsw := hbel.size
    clear hbel
    by_cases hlt : k < n
    · have hi2 : k + 1 < (polA p f).length := by have := HS.out; have := HN.out; omega
      have hmb := HRM.out k hlt
      obtain ⟨p1, p2, ps, l1, i1⟩ := modl_in hmb
      have HMB := Lib.hid hmb
      obtain ⟨d1, d2, d3, d4⟩ := derP_facts (f := resA p f k) ⟨p1, p2⟩ l1
      have HD := Lib.hid (derL_in p2 i1)
      have HI := Lib.hid i1
      have HD2 := Lib.hid d2
      have HD3 := Lib.hid d3
      clear d2 d3 i1 hmb ps
      go_wp2_with (go_at_call 21; with_reducible refine (residualOf_any (HR.out.step HW.out) hp HF.out hl hi2).mono ?_)
      rintro _ w2 ⟨v2, rfl, o2, hb2⟩
      generalize hg : resA p f k = g at *
      have HG := Lib.hid hg
      clear hg
      go_wp2_with (go_at_call 40; with_reducible refine (derivative_any o2.reads HD.out ⟨by omega, by omega⟩ (by omega)).mono ?_)
      rintro _ w3 ⟨v3, rfl, o3, hb3⟩
      go_wp2_with (go_at_call 39; with_reducible refine (reduce_any o3.reads ⟨by omega, by omega⟩ (by omega)).mono ?_)
      rintro _ w4 ⟨v4, rfl, o4, hb4⟩
      have HR4 := Lib.hid (show Reads w4 v4 (derP p g) from o4.reads)
      go_wp2_with (go_at_call 38; with_reducible refine (common_any ((o2.reads.step hb3).step hb4) HR4.out HI.out HD2.out HSM.out (by omega) (by omega) HD3.out).mono ?_)
      rintro _ w5 ⟨v5, rfl, o5, hb5⟩
      obtain ⟨a5, c5, rfl, _, _⟩ := reads_nil_eq o5.reads
      have HB5 := Lib.hid (HW.out.trans ((hb2.trans ((hb3.trans ((hb4.trans (hb5.mono hb4.size)).mono hb3.size)).mono hb2.size)).mono HW.out.size))
      have HB6 := Lib.hid (HW1.out.trans ((hb2.trans ((hb3.trans ((hb4.trans (hb5.mono hb4.size)).mono hb3.size)).mono hb2.size)).mono hsw))
      obtain ⟨e, he⟩ : ∃ e, (comL p g (derP p g)).length = e := ⟨_, rfl⟩
      have HE := Lib.hid he
      rw [he]
      clear he o2 o3 o4 o5 hb2 hb3 hb4 hb5
      by_cases h1 : e = 1
      · have HQ := Lib.hid (show sqfB p g = true by rw [sqfB, HMB.out, HE.out]; simpa using h1)
        subst h1
        go_wp2
        go_roundw
        case rel => exact ⟨k + 1, by go_num, by omega, fun j hj => by
          by_cases hjk : j = k
          · rw [hjk, HG.out]; exact HQ.out
          · exact HJ.out j (by omega), HB6.out⟩
        case measure => simp [intOf]; omega
      · have HQ := Lib.hid (show sqfB p g = false by rw [sqfB, HMB.out, HE.out]; simpa using h1)
        have hne : ((e : Int) != 1) = true := by rw [bne, len_one, decide_eq_false h1]; rfl
        go_wp2
        go_ret
        exact ⟨ret_bool (regB_bad hlt (by rw [HG.out]; exact HQ.out)).symm, HB5.out⟩
    · obtain rfl : k = n := by omega
      go_wp2
      go_ret
      exact ⟨ret_bool (regB_all HJ.out).symm, HW.out⟩

set_option maxHeartbeats 4000000 in
theorem l14Regular_any {p : Int} {v : Value} {f : List Int} {w : World} (h : Reads w v f) (hc : regC p f = 0) :
    Calls Try.prog 22 #[.int .i64 p, v] w fun e w' => e = .returned (.bool (regB p f (sloA p f).length)) ∧ Below w.heap.size w w' := by
  have HR := Lib.hid h
  obtain ⟨hp, hf, hl, hne, hs, hs9⟩ := reg_facts hc
  have HF := Lib.hid hf
  have HS := Lib.hid hs
  have HNE := Lib.hid hne
  obtain ⟨n, hn⟩ : ∃ n, (sloA p f).length = n := ⟨_, rfl⟩
  rw [hn] at hs9 ⊢
  have HN := Lib.hid hn
  clear h hc hf hne hs hn
  go_enter Try.func22, Try.ntmps22
  go_wp2_with (go_at_call 15; with_reducible refine (l13Slopes_any HR.out hp HF.out hl HNE.out).mono ?_)
  rintro _ w1 ⟨v1, rfl, o1, hb1⟩
  obtain ⟨a1, c1, rfl, k1, k2⟩ := OwnS.open o1
  rw [HN.out] at o1 k1 k2 ⊢
  have HB1 := Lib.hid hb1
  have hs1 := hb1.size
  clear o1 hb1 k2
  go_wp2
  go_loopw [6] (fun c wr => ∃ k : Nat, c = .int .i64 (k : Int) ∧ k ≤ n ∧ Hid (∀ j, j < k → sqfB p (resA p f j) = true) ∧ Below w1.heap.size w1 wr) (fun c _ => n - (intOf c).toNat)
  case atStart => exact ⟨0, rfl, by omega, fun j hj => by omega, Below.refl _ _⟩
  case round =>
    obtain ⟨k, rfl, hk, HJ, hbel⟩ := hrel
    have HW := Lib.hid (HB1.out.trans (hbel.mono hs1))
    have HW1 := Lib.hid hbel
    have hsw := hbel.size
    clear hbel
    by_cases hlt : k < n
    · have hi2 : k + 1 < (polA p f).length := by have := HS.out; have := HN.out; omega
      go_wp2_with (go_at_call 16; with_reducible refine (l14Residual_any (HR.out.step HW.out) hp HF.out hl hi2 HNE.out).mono ?_)
      rintro _ w2 ⟨v2, rfl, o2, hb2⟩
      go_wp2_with (go_at_call 37; with_reducible refine (sIsSquareFree_any o2.reads).mono ?_)
      rintro _ w3 ⟨rfl, hb3⟩
      have HB5 := Lib.hid (HW.out.trans ((hb2.trans (hb3.mono hb2.size)).mono HW.out.size))
      have HB6 := Lib.hid (HW1.out.trans ((hb2.trans (hb3.mono hb2.size)).mono hsw))
      clear o2 hb2 hb3
      rcases Bool.eq_false_or_eq_true (sqfB p (resA p f k)) with hq | hq
      · have HQ := Lib.hid hq
        go_wp2
        go_roundw
        case rel => exact ⟨k + 1, by go_num, by omega, fun j hj => by
          by_cases hjk : j = k
          · rw [hjk]; exact HQ.out
          · exact HJ.out j (by omega), HB6.out⟩
        case measure => simp [intOf]; omega
      · have HQ := Lib.hid hq
        go_wp2
        go_ret
        exact ⟨ret_bool (regB_bad hlt HQ.out).symm, HB5.out⟩
    · obtain rfl : k = n := by omega
      go_wp2
      go_ret
      exact ⟨ret_bool (regB_all HJ.out).symm, HW.out⟩
def irB (p : Int) (f : List Int) : Bool := decide (regC p f = 0) && regB p f (sloA p f).length
theorem IsRegular_any {p : Int} {v : Value} {f : List Int} {w : World} (h : Reads w v f) :
    Calls Try.prog 12 #[.int .i64 p, v] w fun e w' => e = .returned (.tuple #[.bool (irB p f), .int .i64 (regC p f)]) ∧ Below w.heap.size w w' := by
  have HR := Lib.hid h
  clear h
  by_cases hc : regC p f = 0
  · have HC := Lib.hid hc
    clear hc
    go_enter Try.func12, Try.ntmps12
    go_wp2_with (first | (go_at_call 17; ((with_reducible refine (calls_int (residual_any HR.out) HC.out).mono ?_); rintro e w' ⟨rfl, rfl⟩)) | (go_at_call 23; with_reducible refine (isRegular_any HR.out HC.out).mono ?_))
    rintro _ w2 ⟨rfl, hb2⟩
    go_wp2
    go_ret2
    exact ⟨by simp [irB, HC.out], hb2⟩
  · have HC := Lib.hid hc
    have hc' : (regC p f != 0) = true := by simpa using hc
    generalize hg : regC p f = c at *
    have HG := Lib.hid hg
    clear hg
    go_enter Try.func12, Try.ntmps12
    go_wp2_with (first | (go_at_call 17; ((with_reducible refine (calls_int (residual_any HR.out) HG.out).mono ?_); rintro e w' ⟨rfl, rfl⟩)))
    go_ret2
    exact ⟨by simp [irB, HG.out, HC.out], Below.refl _ _⟩
theorem sIsRegular_any {p : Int} {v : Value} {f : List Int} {w : World} (h : Reads w v f) :
    Calls Try.prog 11 #[.int .i64 p, v] w fun e w' => e = .returned (.tuple #[.bool (irB p f), .int .i64 (regC p f)]) ∧ Below w.heap.size w w' := by
  have HR := Lib.hid h
  clear h
  by_cases hc : regC p f = 0
  · have HC := Lib.hid hc
    clear hc
    go_enter Try.func11, Try.ntmps11
    go_wp2_with (first | (go_at_call 13; ((with_reducible refine (calls_int (l14Code_any HR.out) HC.out).mono ?_); rintro e w' ⟨rfl, rfl⟩)) | (go_at_call 22; with_reducible refine (l14Regular_any HR.out HC.out).mono ?_))
    rintro _ w2 ⟨rfl, hb2⟩
    go_wp2
    go_ret2
    exact ⟨by simp [irB, HC.out], hb2⟩
  · have HC := Lib.hid hc
    have hc' : (regC p f != 0) = true := by simpa using hc
    generalize hg : regC p f = c at *
    have HG := Lib.hid hg
    clear hg
    go_enter Try.func11, Try.ntmps11
    go_wp2_with (first | (go_at_call 13; ((with_reducible refine (calls_int (l14Code_any HR.out) HG.out).mono ?_); rintro e w' ⟨rfl, rfl⟩)))
    go_ret2
    exact ⟨by simp [irB, HG.out, HC.out], Below.refl _ _⟩

end Go.Proofs.Ytggojomooodlgaa
