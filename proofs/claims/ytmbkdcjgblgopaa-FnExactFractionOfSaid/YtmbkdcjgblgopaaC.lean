/- Contracts: p-adic numbers. -/
import Derived.Test.YtmbkdcjgblgopaaB
namespace Go.Proofs.Ytmbkdcjgblgopaa
open Go.RowKit
set_option linter.unusedVariables false
set_option linter.unusedSimpArgs false

theorem toRing_any (p n : Int) (w : World) :
    Calls Try.prog 16 #[.agg #[.int .i64 p, .int .i64 n]] w fun e w' => e = .returned (.agg #[.int .i64 p, .int .i64 n]) ∧ Below w.heap.size w w' := by
  go_enter Try.func16, Try.ntmps16
  go_wp2
  refine bodyPost_ret (v := .agg #[.int .i64 p, .int .i64 n]) (by simp [results, Try.results16, go_sem, ↓IntWalk.iteOmega]) rfl ?_
  exact ⟨rfl, ((below_box _).alloc (by simp) _).alloc (by simp; omega) _⟩

theorem isPlace_any (n : Int) (w : World) :
    Calls Try.prog 56 #[.int .i64 n] w fun e w' => e = .returned (.bool (inB n (-60) 60)) ∧ w = w' := by
  go_enter Try.func56, Try.ntmps56
  go_wp2_with (go_at_call 65; ((with_reducible refine (within_any _ _ _ _).mono ?_); rintro e w' ⟨rfl, rfl⟩))
  go_ret
  exact ⟨rfl, rfl⟩

theorem ring_any (p v u n : Int) (w : World) :
    Calls Try.prog 58 #[.agg #[.int .i64 p, .int .i64 v, .int .i64 u, .int .i64 n]] w fun e w' => e = .returned (.agg #[.int .i64 p, .int .i64 n]) ∧ Below w.heap.size w w' := by
  go_enter Try.func58, Try.ntmps58
  go_wp2
  refine bodyPost_ret (v := .agg #[.int .i64 p, .int .i64 n]) (by simp [results, Try.results58, go_sem, ↓IntWalk.iteOmega]) rfl ?_
  exact ⟨rfl, (below_box _).alloc (by simp) _⟩
theorem isZero_any (p v u n : Int) (w : World) :
    Calls Try.prog 57 #[.agg #[.int .i64 p, .int .i64 v, .int .i64 u, .int .i64 n]] w fun e w' => e = .returned (.bool (n == 0)) ∧ Below w.heap.size w w' := by
  go_enter Try.func57, Try.ntmps57
  go_wp2
  go_ret
  exact ⟨rfl, (Below.refl _ _).alloc (Nat.le_refl _) _⟩
theorem end_any (p v u n : Int) (w : World) (h1 : -60 ≤ v) (h2 : v ≤ 60) (h3 : 0 ≤ n) (h4 : n ≤ 40) :
    Calls Try.prog 61 #[.agg #[.int .i64 p, .int .i64 v, .int .i64 u, .int .i64 n]] w fun e w' => e = .returned (.int .i64 (v + n)) ∧ Below w.heap.size w w' := by
  go_enter Try.func61, Try.ntmps61
  go_wp2
  go_ret
  exact ⟨rfl, below_box _⟩

def padicB (p v u n : Int) : Bool := smallB p && inB v (-60) 60 && (if n = 0 then u == 0 else ringB p n && inB u 0 (p ^ n.toNat - 1) && u % p != 0)


/-- What a valid p-adic number is. -/
theorem padic_iff {p v u n : Int} : padicB p v u n = true ↔ smallB p = true ∧ (-60 ≤ v ∧ v ≤ 60) ∧ ((n = 0 ∧ u = 0) ∨ (n ≠ 0 ∧ ringB p n = true ∧ (0 ≤ u ∧ u ≤ p ^ n.toNat - 1) ∧ u % p ≠ 0)) := by
  unfold padicB
  rw [Bool.and_eq_true, Bool.and_eq_true, inB_iff]
  by_cases h : n = 0
  · rw [if_pos h]; simp [h]; constructor <;> (intro h'; simp_all)
  · rw [if_neg h, Bool.and_eq_true, Bool.and_eq_true, inB_iff, bne_iff_ne]
    constructor
    · rintro ⟨⟨h1, h2⟩, ⟨h3, h4⟩, h5⟩; exact ⟨h1, h2, .inr ⟨h, h3, h4, h5⟩⟩
    · rintro ⟨h1, h2, ⟨h3, _⟩ | ⟨_, h3, h4, h5⟩⟩
      · exact absurd h3 h
      · exact ⟨⟨h1, h2⟩, ⟨h3, h4⟩, h5⟩

set_option maxHeartbeats 1000000 in
theorem IsPadic_any (p v u n : Int) (w : World) (hn : n ≤ 9223372036854775807) (hn' : -9223372036854775808 ≤ n) :
    Calls Try.prog 24 #[.agg #[.int .i64 p, .int .i64 v, .int .i64 u, .int .i64 n]] w fun e w' => e = .returned (.bool (padicB p v u n)) ∧ Below w.heap.size w w' := by
  by_cases hs : smallB p = true
  · by_cases hv : inB v (-60) 60 = true
    · by_cases hz : n = 0
      · have hq := Lib.hid (show padicB p v u n = (u == 0) by unfold padicB; rw [hs, hv, if_pos hz]; simp)
        have hz' : (n == 0) = true := by simpa using hz
        clear hz
        go_enter Try.func24, Try.ntmps24
        go_wp2_with (first | (go_at_call 55; ((with_reducible refine (isSmallPrime_any _ _).mono ?_); rintro e w' ⟨rfl, rfl⟩)) | (go_at_call 56; ((with_reducible refine (isPlace_any _ _).mono ?_); rintro e w' ⟨rfl, rfl⟩)) | (go_at_call 57; ((with_reducible refine (isZero_any _ _ _ _ _).mono ?_); rintro e w1_hb1 ⟨rfl, hb1⟩; obtain ⟨chb1, fhb1, shb1⟩ := bfacts hb1; (try have l0hb1 : w.heap.size < w1_hb1.heap.size := (by first | (simp at shb1; omega) | omega)); (try have l1hb1 : w.heap.size + 1 < w1_hb1.heap.size := (by first | (simp at shb1; omega) | omega)))))
        go_ret
        exact ⟨ret_bool hq.out.symm, below_boxed hb1⟩
      · have hz' : (n == 0) = false := by simpa using hz
        by_cases hr : ringB p n = true
        · obtain ⟨h1, h2, h3⟩ := ring_bd hr
          by_cases hu : inB u 0 (p ^ n.toNat - 1) = true
          · have hq := Lib.hid (show padicB p v u n = (u % p != 0) by unfold padicB; rw [hs, hv, if_neg hz, hr, hu]; rfl)
            have hu0 := (inB_iff.1 hu).1
            have HR := Lib.hid hr; have HU := Lib.hid hu; clear hr hu
            go_enter Try.func24, Try.ntmps24
            go_wp2_with (first | (go_at_call 55; ((with_reducible refine (isSmallPrime_any _ _).mono ?_); rintro e w' ⟨rfl, rfl⟩)) | (go_at_call 56; ((with_reducible refine (isPlace_any _ _).mono ?_); rintro e w' ⟨rfl, rfl⟩)) | (go_at_call 57; ((with_reducible refine (isZero_any _ _ _ _ _).mono ?_); rintro e w1_hb1 ⟨rfl, hb1⟩; obtain ⟨chb1, fhb1, shb1⟩ := bfacts hb1; (try have l0hb1 : w.heap.size < w1_hb1.heap.size := (by first | (simp at shb1; omega) | omega)); (try have l1hb1 : w.heap.size + 1 < w1_hb1.heap.size := (by first | (simp at shb1; omega) | omega)))))
            (refine wp_region_wext (by kernel_rfl) (by kernel_rfl) ?_; (repeat (go_big_quiet_step (first | (go_at_call 58; with_reducible refine calls_wext (ring_any _ _ _ _ _)) | (go_at_call 44; with_reducible refine calls_wext (calls_bool (IsRing_any _ _ _ hn hn') HR.out)) | (go_at_call 59; with_reducible refine calls_wext (calls_bool (has_any _ _ _ _ HR.out) HU.out)) | (go_at_call 60; with_reducible refine calls_wext (isUnit_any _ _ _ _ h1.1 hu0))))); refine wpQuiet_nil ?_; intro w1_hb2 hb2; replace hb2 := below_of_wext hb2; obtain ⟨chb2, fhb2, shb2⟩ := bfacts hb2; (try have l0hb2 : w.heap.size < w1_hb2.heap.size := (by first | (simp at shb2; omega) | omega)); (try have l1hb2 : w.heap.size + 1 < w1_hb2.heap.size := (by first | (simp at shb2; omega) | omega)))
            go_wp2
            go_ret
            exact ⟨ret_bool hq.out.symm, (below_boxed hb1).trans (hb2.mono (by simp at shb1; omega))⟩
          · have hu' : inB u 0 (p ^ n.toNat - 1) = false := by simpa using hu
            have hq := Lib.hid (show padicB p v u n = false by unfold padicB; rw [hs, hv, if_neg hz, hr, hu']; rfl)
            have HR := Lib.hid hr; have HU := Lib.hid hu'; clear hr hu' hu
            go_enter Try.func24, Try.ntmps24
            go_wp2_with (first | (go_at_call 55; ((with_reducible refine (isSmallPrime_any _ _).mono ?_); rintro e w' ⟨rfl, rfl⟩)) | (go_at_call 56; ((with_reducible refine (isPlace_any _ _).mono ?_); rintro e w' ⟨rfl, rfl⟩)) | (go_at_call 57; ((with_reducible refine (isZero_any _ _ _ _ _).mono ?_); rintro e w1_hb1 ⟨rfl, hb1⟩; obtain ⟨chb1, fhb1, shb1⟩ := bfacts hb1; (try have l0hb1 : w.heap.size < w1_hb1.heap.size := (by first | (simp at shb1; omega) | omega)); (try have l1hb1 : w.heap.size + 1 < w1_hb1.heap.size := (by first | (simp at shb1; omega) | omega)))))
            (refine wp_region_wext (by kernel_rfl) (by kernel_rfl) ?_; (repeat (go_big_quiet_step (first | (go_at_call 58; with_reducible refine calls_wext (ring_any _ _ _ _ _)) | (go_at_call 44; with_reducible refine calls_wext (calls_bool (IsRing_any _ _ _ hn hn') HR.out)) | (go_at_call 59; with_reducible refine calls_wext (calls_bool (has_any _ _ _ _ HR.out) HU.out))))); refine wpQuiet_nil ?_; intro w1_hb2 hb2; replace hb2 := below_of_wext hb2; obtain ⟨chb2, fhb2, shb2⟩ := bfacts hb2; (try have l0hb2 : w.heap.size < w1_hb2.heap.size := (by first | (simp at shb2; omega) | omega)); (try have l1hb2 : w.heap.size + 1 < w1_hb2.heap.size := (by first | (simp at shb2; omega) | omega)))
            go_wp2
            go_ret
            exact ⟨ret_bool hq.out.symm, (below_boxed hb1).trans (hb2.mono (by simp at shb1; omega))⟩
        · have hr' : ringB p n = false := by simpa using hr
          have hq := Lib.hid (show padicB p v u n = false by unfold padicB; rw [hs, hv, if_neg hz, hr']; rfl)
          have HR := Lib.hid hr'; clear hr hr'
          go_enter Try.func24, Try.ntmps24
          go_wp2_with (first | (go_at_call 55; ((with_reducible refine (isSmallPrime_any _ _).mono ?_); rintro e w' ⟨rfl, rfl⟩)) | (go_at_call 56; ((with_reducible refine (isPlace_any _ _).mono ?_); rintro e w' ⟨rfl, rfl⟩)) | (go_at_call 57; ((with_reducible refine (isZero_any _ _ _ _ _).mono ?_); rintro e w1_hb1 ⟨rfl, hb1⟩; obtain ⟨chb1, fhb1, shb1⟩ := bfacts hb1; (try have l0hb1 : w.heap.size < w1_hb1.heap.size := (by first | (simp at shb1; omega) | omega)); (try have l1hb1 : w.heap.size + 1 < w1_hb1.heap.size := (by first | (simp at shb1; omega) | omega)))))
          (refine wp_region_wext (by kernel_rfl) (by kernel_rfl) ?_; (repeat (go_big_quiet_step (first | (go_at_call 58; with_reducible refine calls_wext (ring_any _ _ _ _ _)) | (go_at_call 44; with_reducible refine calls_wext (calls_bool (IsRing_any _ _ _ hn hn') HR.out))))); refine wpQuiet_nil ?_; intro w1_hb2 hb2; replace hb2 := below_of_wext hb2; obtain ⟨chb2, fhb2, shb2⟩ := bfacts hb2; (try have l0hb2 : w.heap.size < w1_hb2.heap.size := (by first | (simp at shb2; omega) | omega)); (try have l1hb2 : w.heap.size + 1 < w1_hb2.heap.size := (by first | (simp at shb2; omega) | omega)))
          go_wp2
          go_ret
          exact ⟨ret_bool hq.out.symm, (below_boxed hb1).trans (hb2.mono (by simp at shb1; omega))⟩
    · have hv' : inB v (-60) 60 = false := by simpa using hv
      have hq := Lib.hid (show padicB p v u n = false by unfold padicB; rw [hs, hv']; rfl)
      clear hv
      go_enter Try.func24, Try.ntmps24
      go_wp2_with (first | (go_at_call 55; ((with_reducible refine (isSmallPrime_any _ _).mono ?_); rintro e w' ⟨rfl, rfl⟩)) | (go_at_call 56; ((with_reducible refine (isPlace_any _ _).mono ?_); rintro e w' ⟨rfl, rfl⟩)))
      go_ret
      exact ⟨ret_bool hq.out.symm, below_box _⟩
  · have hs' : smallB p = false := by simpa using hs
    have hq := Lib.hid (show padicB p v u n = false by unfold padicB; rw [hs']; rfl)
    clear hs
    go_enter Try.func24, Try.ntmps24
    go_wp2_with (first | (go_at_call 55; ((with_reducible refine (isSmallPrime_any _ _).mono ?_); rintro e w' ⟨rfl, rfl⟩)) | (go_at_call 56; ((with_reducible refine (isPlace_any _ _).mono ?_); rintro e w' ⟨rfl, rfl⟩)))
    go_ret
    exact ⟨ret_bool hq.out.symm, below_box _⟩

theorem l03Ring_any (p v u n : Int) (w : World) :
    Calls Try.prog 54 #[.agg #[.int .i64 p, .int .i64 v, .int .i64 u, .int .i64 n]] w fun e w' => e = .returned (.agg #[.int .i64 p, .int .i64 n]) ∧ Below w.heap.size w w' := by
  go_enter Try.func54, Try.ntmps54
  go_wp2
  refine bodyPost_ret (v := .agg #[.int .i64 p, .int .i64 n]) (by simp [results, Try.results54, go_sem, ↓IntWalk.iteOmega]) rfl ?_
  exact ⟨rfl, (below_box _).alloc (by simp) _⟩

set_option maxHeartbeats 1000000 in
theorem specIsPadic_any (p v u n : Int) (w : World) (hn : n ≤ 9223372036854775807) (hn' : -9223372036854775808 ≤ n) :
    Calls Try.prog 22 #[.agg #[.int .i64 p, .int .i64 v, .int .i64 u, .int .i64 n]] w fun e w' => e = .returned (.bool (padicB p v u n)) ∧ Below w.heap.size w w' := by
  by_cases hs : smallB p = true
  · by_cases hv : inB v (-60) 60 = true
    · by_cases hz : n = 0
      · have hq := Lib.hid (show padicB p v u n = (u == 0) by unfold padicB; rw [hs, hv, if_pos hz]; simp)
        have hz' : (n == 0) = true := by simpa using hz
        clear hz
        go_enter Try.func22, Try.ntmps22
        go_wp2_with (first | (go_at_call 52; ((with_reducible refine (l01Small_any _ _).mono ?_); rintro e w' ⟨rfl, rfl⟩)) | (go_at_call 53; ((with_reducible refine (l01In_any _ _ _ _).mono ?_); rintro e w' ⟨rfl, rfl⟩)))
        go_ret
        exact ⟨ret_bool hq.out.symm, below_box _⟩
      · have hz' : (n == 0) = false := by simpa using hz
        by_cases hr : ringB p n = true
        · obtain ⟨h1, h2, h3⟩ := ring_bd hr
          by_cases hu : inB u 1 (p ^ n.toNat - 1) = true
          · have hu1 := inB_iff.1 hu
            have hq := Lib.hid (show padicB p v u n = (u % p != 0) by unfold padicB; rw [hs, hv, if_neg hz, hr, inB_iff.2 (show 0 ≤ u ∧ u ≤ p ^ n.toNat - 1 by omega)]; rfl)
            have hu0 := hu1.1
            have HR := Lib.hid hr; have HU := Lib.hid hu; clear hr hu
            go_enter Try.func22, Try.ntmps22
            go_wp2_with (first | (go_at_call 52; ((with_reducible refine (l01Small_any _ _).mono ?_); rintro e w' ⟨rfl, rfl⟩)) | (go_at_call 53; ((with_reducible refine (l01In_any _ _ _ _).mono ?_); rintro e w' ⟨rfl, rfl⟩)))
            (refine wp_region_wext (by kernel_rfl) (by kernel_rfl) ?_; (repeat (go_big_quiet_step (first | (go_at_call 54; with_reducible refine calls_wext (l03Ring_any _ _ _ _ _)) | (go_at_call 42; with_reducible refine calls_wext (calls_bool (specIsRing_any _ _ _ hn hn') HR.out)) | (go_at_call 43; with_reducible refine calls_wext_same (l02Modulus_ring _ _ _ HR.out)) | (go_at_call 53; with_reducible refine calls_wext_same (calls_bool (l01In_any _ _ _ _) HU.out))))); refine wpQuiet_nil ?_; intro w1_hb2 hb2; replace hb2 := below_of_wext hb2; obtain ⟨chb2, fhb2, shb2⟩ := bfacts hb2; (try have l0hb2 : w.heap.size < w1_hb2.heap.size := (by first | (simp at shb2; omega) | omega)); (try have l1hb2 : w.heap.size + 1 < w1_hb2.heap.size := (by first | (simp at shb2; omega) | omega)))
            go_wp2
            go_ret
            exact ⟨ret_bool hq.out.symm, below_boxed hb2⟩
          · have hu' : inB u 1 (p ^ n.toNat - 1) = false := by simpa using hu
            have hq := Lib.hid (show padicB p v u n = false by
              rw [Bool.eq_false_iff]; intro h
              rcases (padic_iff.1 h).2.2 with h | h
              · exact hz h.1
              · have : u ≠ 0 := fun h0 => h.2.2.2 (by rw [h0]; exact Int.zero_emod _)
                exact hu (inB_iff.2 (by omega)))
            have HR := Lib.hid hr; have HU := Lib.hid hu'; clear hr hu' hu
            go_enter Try.func22, Try.ntmps22
            go_wp2_with (first | (go_at_call 52; ((with_reducible refine (l01Small_any _ _).mono ?_); rintro e w' ⟨rfl, rfl⟩)) | (go_at_call 53; ((with_reducible refine (l01In_any _ _ _ _).mono ?_); rintro e w' ⟨rfl, rfl⟩)))
            (refine wp_region_wext (by kernel_rfl) (by kernel_rfl) ?_; (repeat (go_big_quiet_step (first | (go_at_call 54; with_reducible refine calls_wext (l03Ring_any _ _ _ _ _)) | (go_at_call 42; with_reducible refine calls_wext (calls_bool (specIsRing_any _ _ _ hn hn') HR.out)) | (go_at_call 43; with_reducible refine calls_wext_same (l02Modulus_ring _ _ _ HR.out)) | (go_at_call 53; with_reducible refine calls_wext_same (calls_bool (l01In_any _ _ _ _) HU.out))))); refine wpQuiet_nil ?_; intro w1_hb2 hb2; replace hb2 := below_of_wext hb2; obtain ⟨chb2, fhb2, shb2⟩ := bfacts hb2; (try have l0hb2 : w.heap.size < w1_hb2.heap.size := (by first | (simp at shb2; omega) | omega)); (try have l1hb2 : w.heap.size + 1 < w1_hb2.heap.size := (by first | (simp at shb2; omega) | omega)))
            go_wp2
            go_ret
            exact ⟨ret_bool hq.out.symm, below_boxed hb2⟩
        · have hr' : ringB p n = false := by simpa using hr
          have hq := Lib.hid (show padicB p v u n = false by unfold padicB; rw [hs, hv, if_neg hz, hr']; rfl)
          have HR := Lib.hid hr'; clear hr hr'
          go_enter Try.func22, Try.ntmps22
          go_wp2_with (first | (go_at_call 52; ((with_reducible refine (l01Small_any _ _).mono ?_); rintro e w' ⟨rfl, rfl⟩)) | (go_at_call 53; ((with_reducible refine (l01In_any _ _ _ _).mono ?_); rintro e w' ⟨rfl, rfl⟩)))
          (refine wp_region_wext (by kernel_rfl) (by kernel_rfl) ?_; (repeat (go_big_quiet_step (first | (go_at_call 54; with_reducible refine calls_wext (l03Ring_any _ _ _ _ _)) | (go_at_call 42; with_reducible refine calls_wext (calls_bool (specIsRing_any _ _ _ hn hn') HR.out))))); refine wpQuiet_nil ?_; intro w1_hb2 hb2; replace hb2 := below_of_wext hb2; obtain ⟨chb2, fhb2, shb2⟩ := bfacts hb2; (try have l0hb2 : w.heap.size < w1_hb2.heap.size := (by first | (simp at shb2; omega) | omega)); (try have l1hb2 : w.heap.size + 1 < w1_hb2.heap.size := (by first | (simp at shb2; omega) | omega)))
          go_wp2
          go_ret
          exact ⟨ret_bool hq.out.symm, below_boxed hb2⟩
    · have hv' : inB v (-60) 60 = false := by simpa using hv
      have hq := Lib.hid (show padicB p v u n = false by unfold padicB; rw [hs, hv']; rfl)
      clear hv
      go_enter Try.func22, Try.ntmps22
      go_wp2_with (first | (go_at_call 52; ((with_reducible refine (l01Small_any _ _).mono ?_); rintro e w' ⟨rfl, rfl⟩)) | (go_at_call 53; ((with_reducible refine (l01In_any _ _ _ _).mono ?_); rintro e w' ⟨rfl, rfl⟩)))
      go_ret
      exact ⟨ret_bool hq.out.symm, below_box _⟩
  · have hs' : smallB p = false := by simpa using hs
    have hq := Lib.hid (show padicB p v u n = false by unfold padicB; rw [hs']; rfl)
    clear hs
    go_enter Try.func22, Try.ntmps22
    go_wp2_with (first | (go_at_call 52; ((with_reducible refine (l01Small_any _ _).mono ?_); rintro e w' ⟨rfl, rfl⟩)) | (go_at_call 53; ((with_reducible refine (l01In_any _ _ _ _).mono ?_); rintro e w' ⟨rfl, rfl⟩)))
    go_ret
    exact ⟨ret_bool hq.out.symm, below_box _⟩

end Go.Proofs.Ytmbkdcjgblgopaa
