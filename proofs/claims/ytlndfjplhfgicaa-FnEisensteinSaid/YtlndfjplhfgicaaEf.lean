/- Eisenstein polynomials: the law's plain part, and contracts of the top functions it calls. -/
import Derived.Test.YtlndfjplhfgicaaEa
import Derived.Test.YtlndfjplhfgicaaOg
import Derived.Test.YtlndfjplhfgicaaN
namespace Go.Proofs.Ytlndfjplhfgicaa
open Go.RowKit
set_option linter.unusedVariables false
set_option linter.unusedSimpArgs false

/-! ### the different -/
theorem own_ok {p : Int} {f : List Int} (h : ownC p f = 0) : extC p f = 0 ∧ eisB p f = true := by
  rcases own_ways p f with ⟨hx, ⟨he, _⟩ | ⟨_, hc⟩⟩ | ⟨_, hx, he⟩
  · exact ⟨hx, he⟩
  · rw [h] at hc; cases hc
  · rw [h] at he; rw [← he] at hx; simp at hx
theorem eis_dvd {p : Int} {f : List Int} (h : eisB p f = true) {i : Nat} (hi : i + 1 < f.length) : el f i % p = 0 := by
  apply Decidable.byContradiction
  intro hne
  rw [eis_bad hi hne] at h
  cases h
theorem difS_low {p : Int} {f : List Int} {n : Nat} (hp : 2 ≤ p) (hn : f.length = n + 1) (he : ∀ i, i + 1 < f.length → el f i % p = 0) : ∀ i, i + 1 ≤ n → difS p f i = -1 ∨ (n : Int) ≤ difS p f i
  | 0, _ => .inl rfl
  | i + 1, h => by
    have ih := difS_low hp hn he i (by omega)
    rw [difS]
    split
    · exact ih
    · rename_i hz
      have hd := he (i + 1) (by omega)
      have hv : 1 ≤ vp p (((i : Int) + 1) * el f (i + 1)) := vp_pos hp (Int.mul_ne_zero (by omega) hz) (by rw [Int.mul_emod, hd]; simp)
      have hm : (n : Int) * 1 ≤ (n : Int) * vp p (((i : Int) + 1) * el f (i + 1)) := Int.mul_le_mul_of_nonneg_left (by omega) (by omega)
      have hD := difD_eq (p := p) (i := i) hn
      split
      · right; omega
      · rcases ih with ih | ih
        · rename_i hh; omega
        · exact .inr ih
theorem dif_law {p : Int} {f : List Int} (h : ownC p f = 0) : (((f.length : Int) - 1) % p ≠ 0 → difL p f = (f.length : Int) - 2) ∧ (((f.length : Int) - 1) % p = 0 → (f.length : Int) - 2 < difL p f) := by
  obtain ⟨hx, he⟩ := own_ok h
  obtain ⟨s1, s2, s3⟩ := ext_ok hx
  obtain ⟨p1, p2⟩ := small_bd s1
  obtain ⟨m1, m2⟩ := mon_ok s3
  obtain ⟨n, hn⟩ : ∃ n, f.length = n + 1 := ⟨f.length - 1, by omega⟩
  obtain ⟨m, rfl⟩ : ∃ m, n = m + 1 := ⟨n - 1, by omega⟩
  have hl := difS_low p1 hn (fun i hi => eis_dvd he hi) m (by omega)
  rw [hn, show m + 1 + 1 - 1 = m + 1 by omega] at m2
  have e1 : difL p f = if difS p f m < 0 ∨ difD p f m < difS p f m then difD p f m else difS p f m := by
    unfold difL
    rw [hn, show m + 1 + 1 - 1 = m + 1 by omega, difS, if_neg (by rw [m2]; omega)]
  have hD := difD_eq (p := p) (i := m) hn
  rw [m2, Int.mul_one] at hD
  have en : ((f.length : Nat) : Int) = (m : Int) + 1 + 1 := by rw [hn]; omega
  rw [en, e1, show (m : Int) + 1 + 1 - 1 = (m : Int) + 1 by omega]
  have hc : ((m + 1 : Nat) : Int) = (m : Int) + 1 := by omega
  rw [hc] at hD hl
  constructor
  · intro ht
    have hv : vp p ((m : Int) + 1) = 0 := vp_zero p1 ht
    rw [hv] at hD
    simp at hD
    rcases hl with hl | hl
    · rw [if_pos (.inl (by omega))]; omega
    · rw [if_pos (.inr (by omega))]; omega
  · intro ht
    have hv : 1 ≤ vp p ((m : Int) + 1) := vp_pos p1 (by omega) ht
    have hm : ((m : Int) + 1) * 1 ≤ ((m : Int) + 1) * vp p ((m : Int) + 1) := Int.mul_le_mul_of_nonneg_left (by omega) (by omega)
    split
    · omega
    · rename_i hh
      rcases hl with hl | hl
      · omega
      · omega
/-! ### Eisenstein polynomials are made -/
def eisC (q n k : Int) : Int := if smallB q then if inB n 1 8 then if inB k (-100) 100 then 0 else 2 else 2 else 1
def eisP (q : Int) (n : Nat) (k : Int) : List Int := if 1 < n then (((List.replicate (n + 1) 0).set 0 q).set n 1).set 1 (q * k) else ((List.replicate (n + 1) 0).set 0 q).set n 1
def eisL (q n k : Int) : List Int := if eisC q n k = 0 then eisP q n.toNat k else []
theorem eisP_good {q k : Int} {n : Nat} (hs : smallB q = true) (hn : 1 ≤ n ∧ n ≤ 8) (hk : -100 ≤ k ∧ k ≤ 100) : extC q (eisP q n k) = 0 ∧ eisB q (eisP q n k) = true := by
  obtain ⟨q0, q1⟩ := small_bd hs
  have hqk : -9700 ≤ q * k ∧ q * k ≤ 9700 := by
    have h1 := Int.mul_le_mul_of_nonneg_left hk.2 (show 0 ≤ q by omega)
    have h2 := Int.mul_le_mul_of_nonneg_left hk.1 (show 0 ≤ q by omega)
    omega
  have hqq : q % (q * q) = q := Int.emod_eq_of_lt (by omega) (by
    have := Int.mul_le_mul_of_nonneg_left q0 (show 0 ≤ q by omega)
    omega)
  have hq0 : (q != 0) = true := by simp; omega
  have hm : q * k % q = 0 := Int.mul_emod_right _ _
  have b1 := inB_iff.2 (show -1000000 ≤ q ∧ q ≤ 1000000 by omega)
  have b2 := inB_iff.2 (show -1000000 ≤ q * k ∧ q * k ≤ 1000000 by omega)
  have b3 : inB 0 (-1000000) 1000000 = true := by decide
  have b4 : inB 1 (-1000000) 1000000 = true := by decide
  have hn' : n = 1 ∨ n = 2 ∨ n = 3 ∨ n = 4 ∨ n = 5 ∨ n = 6 ∨ n = 7 ∨ n = 8 := by omega
  rcases hn' with rfl | rfl | rfl | rfl | rfl | rfl | rfl | rfl
  all_goals
    refine ⟨?_, ?_⟩
    · simp [extC, hs, polyB, monB, eisP, el, List.replicate, b1, b2, b3, b4]
    · simp [eisB, eisP, el, List.replicate, List.range, List.range.loop, hqq, hq0, hm]
theorem eis_ok {q n k : Int} (h : eisC q n k = 0) : extC q (eisL q n k) = 0 ∧ eisB q (eisL q n k) = true := by
  unfold eisL
  rw [if_pos h]
  unfold eisC at h
  by_cases h1 : smallB q = true
  · rw [if_pos h1] at h
    by_cases h2 : inB n 1 8 = true
    · rw [if_pos h2] at h
      by_cases h3 : inB k (-100) 100 = true
      · have := inB_iff.1 h2
        exact eisP_good h1 (by omega) (inB_iff.1 h3)
      · rw [if_neg h3] at h; cases h
    · rw [if_neg h2] at h; cases h
  · rw [if_neg h1] at h; cases h
/-! ### contracts -/
namespace differentOf
theorem impl_any {p : Int} {v : Value} {f : List Int} {w : World} (h : Reads w v f) :
    Calls Try.prog 65 #[.int .i64 p, v] w fun e w' => e = .returned (.tuple #[.int .i64 (difV p f), .int .i64 (ownC p f)]) ∧ w = w' := by
  by_cases hc : ownC p f = 0
  · rw [difV, if_pos hc, hc]
    exact DifferentOf_ok h hc
  · have hb : (ownC p f != 0) = true := by simpa using hc
    have HR := Lib.hid h
    rw [difV, if_neg hc]
    clear h hc
    go_enter Try.func65, Try.ntmps65
    go_wp2_with (go_at_call 135; ((with_reducible refine (eisenstein_any HR.out).mono ?_); rintro e w' ⟨rfl, rfl⟩))
    go_ret2
    exact ⟨rfl, rfl⟩
theorem spec_any {p : Int} {v : Value} {f : List Int} {w : World} (h : Reads w v f) :
    Calls Try.prog 66 #[.int .i64 p, v] w fun e w' => e = .returned (.tuple #[.int .i64 (difV p f), .int .i64 (ownC p f)]) ∧ w = w' := by
  have HR := Lib.hid h
  clear h
  by_cases hc : ownC p f = 0
  · have HC := Lib.hid hc
    rw [difV, if_pos hc, hc]
    clear hc
    go_enter Try.func66, Try.ntmps66
    go_wp2_with (first | (go_at_call 137; ((with_reducible refine (calls_int (l15Own_any HR.out) HC.out).mono ?_); rintro e w' ⟨rfl, rfl⟩)) | (go_at_call 138; ((with_reducible refine (l15Different_ok HR.out HC.out).mono ?_); rintro e w' ⟨rfl, rfl⟩)))
    go_ret2
    exact ⟨rfl, rfl⟩
  · have hb : (ownC p f != 0) = true := by simpa using hc
    rw [difV, if_neg hc]
    clear hc
    go_enter Try.func66, Try.ntmps66
    go_wp2_with (go_at_call 137; ((with_reducible refine (l15Own_any HR.out).mono ?_); rintro e w' ⟨rfl, rfl⟩))
    go_ret2
    exact ⟨rfl, rfl⟩
end differentOf
namespace isTame
def val (p : Int) (f : List Int) : Bool := if ownC p f = 0 then decide (((f.length : Int) - 1) % p ≠ 0) else false
set_option maxHeartbeats 1000000 in
theorem impl_any {p : Int} {v : Value} {f : List Int} {w : World} (h : Reads w v f) :
    Calls Try.prog 67 #[.int .i64 p, v] w fun e w' => e = .returned (.tuple #[.bool (val p f), .int .i64 (ownC p f)]) ∧ w = w' := by
  have HR := Lib.hid h
  have hl := h.1
  clear h
  by_cases hc : ownC p f = 0
  · have HC := Lib.hid hc
    obtain ⟨s1, s2, s3⟩ := ext_ok (own_ok hc).1
    obtain ⟨p1, p2⟩ := small_bd s1
    have hp0 : ¬ p = 0 := by omega
    have hm := (mon_ok s3).1
    obtain ⟨n, hn⟩ : ∃ n : Nat, (f.length : Int) - 1 = (n : Int) := ⟨f.length - 1, by omega⟩
    have HN := Lib.hid hn
    have hnb : n ≤ 1099511627776 := by omega
    have hv : val p f = decide ((n : Int) % p ≠ 0) := by unfold val; rw [if_pos hc, hn]
    rw [hv, hc]
    clear s1 s2 s3 hc hn hv
    by_cases hz : (n : Int) % p = 0
    · have hz1 : ((n : Int) % p != 0) = false := by simpa using hz
      have hz2 : decide ((n : Int) % p ≠ 0) = false := by simpa using hz
      rw [hz2]
      go_enter Try.func67, Try.ntmps67
      go_wp2_with (first | (go_at_call 135; ((with_reducible refine (calls_int (eisenstein_any HR.out) HC.out).mono ?_); rintro e w' ⟨rfl, rfl⟩)) | (go_at_call 136; ((with_reducible refine (calls_int (degree_any HR.out) HN.out).mono ?_); rintro e w' ⟨rfl, rfl⟩)))
      go_ret2
      exact ⟨rfl, rfl⟩
    · have hz1 : ((n : Int) % p != 0) = true := by simpa using hz
      have hz2 : decide ((n : Int) % p ≠ 0) = true := by simpa using hz
      rw [hz2]
      go_enter Try.func67, Try.ntmps67
      go_wp2_with (first | (go_at_call 135; ((with_reducible refine (calls_int (eisenstein_any HR.out) HC.out).mono ?_); rintro e w' ⟨rfl, rfl⟩)) | (go_at_call 136; ((with_reducible refine (calls_int (degree_any HR.out) HN.out).mono ?_); rintro e w' ⟨rfl, rfl⟩)))
      go_ret2
      exact ⟨rfl, rfl⟩
  · have hb : (ownC p f != 0) = true := by simpa using hc
    have hv : val p f = false := by unfold val; rw [if_neg hc]
    rw [hv]
    clear hc
    go_enter Try.func67, Try.ntmps67
    go_wp2_with (go_at_call 135; ((with_reducible refine (eisenstein_any HR.out).mono ?_); rintro e w' ⟨rfl, rfl⟩))
    go_ret2
    exact ⟨rfl, rfl⟩
set_option maxHeartbeats 1000000 in
theorem spec_any {p : Int} {v : Value} {f : List Int} {w : World} (h : Reads w v f) :
    Calls Try.prog 68 #[.int .i64 p, v] w fun e w' => e = .returned (.tuple #[.bool (val p f), .int .i64 (ownC p f)]) ∧ w = w' := by
  obtain ⟨a, cap, rfl, k1, k2⟩ := reads_nil_eq h
  have hl := h.1
  by_cases hc : ownC p f = 0
  · have HC := Lib.hid hc
    obtain ⟨s1, s2, s3⟩ := ext_ok (own_ok hc).1
    obtain ⟨p1, p2⟩ := small_bd s1
    have hp0 : ¬ p = 0 := by omega
    have hm := (mon_ok s3).1
    obtain ⟨n, hn⟩ : ∃ n : Nat, f.length = n + 1 := ⟨f.length - 1, by omega⟩
    have hnb : n ≤ 1099511627776 := by omega
    have hv : val p f = decide ((n : Int) % p ≠ 0) := by unfold val; rw [if_pos hc, hn, show ((n + 1 : Nat) : Int) - 1 = n by omega]
    rw [hv, hc]
    rw [hn] at h ⊢
    have HR := Lib.hid h
    clear s1 s2 s3 hc hn hv h k2
    by_cases hz : (n : Int) % p = 0
    · have hz1 : ((n : Int) % p != 0) = false := by simpa using hz
      have hz2 : decide ((n : Int) % p ≠ 0) = false := by simpa using hz
      rw [hz2]
      go_enter Try.func68, Try.ntmps68
      go_wp2_with (go_at_call 137; ((with_reducible refine (calls_int (l15Own_any HR.out) HC.out).mono ?_); rintro e w' ⟨rfl, rfl⟩))
      go_ret2
      exact ⟨rfl, rfl⟩
    · have hz1 : ((n : Int) % p != 0) = true := by simpa using hz
      have hz2 : decide ((n : Int) % p ≠ 0) = true := by simpa using hz
      rw [hz2]
      go_enter Try.func68, Try.ntmps68
      go_wp2_with (go_at_call 137; ((with_reducible refine (calls_int (l15Own_any HR.out) HC.out).mono ?_); rintro e w' ⟨rfl, rfl⟩))
      go_ret2
      exact ⟨rfl, rfl⟩
  · have hb : (ownC p f != 0) = true := by simpa using hc
    have hv : val p f = false := by unfold val; rw [if_neg hc]
    have HR := Lib.hid h
    rw [hv]
    clear hc h k2
    go_enter Try.func68, Try.ntmps68
    go_wp2_with (go_at_call 137; ((with_reducible refine (l15Own_any HR.out).mono ?_); rintro e w' ⟨rfl, rfl⟩))
    go_ret2
    exact ⟨rfl, rfl⟩
end isTame
namespace isEisenstein
def val (p : Int) (f : List Int) : Bool := if extC p f = 0 then eisB p f else false
set_option maxHeartbeats 1000000 in
theorem impl_any {p : Int} {v : Value} {f : List Int} {w : World} (h : Reads w v f) :
    Calls Try.prog 69 #[.int .i64 p, v] w fun e w' => e = .returned (.tuple #[.bool (val p f), .int .i64 (extC p f)]) ∧ w = w' := by
  have HR := Lib.hid h
  clear h
  by_cases hc : extC p f = 0
  · have HC := Lib.hid hc
    obtain ⟨s1, s2, s3⟩ := ext_ok hc
    have hp := small_bd s1
    have hm := (mon_ok s3).1
    have hv : val p f = eisB p f := by unfold val; rw [if_pos hc]
    rw [hv, hc]
    clear s1 s2 s3 hc hv
    go_enter Try.func69, Try.ntmps69
    go_wp2_with (first | (go_at_call 139; ((with_reducible refine (calls_int (extending_any HR.out) HC.out).mono ?_); rintro e w' ⟨rfl, rfl⟩)) | (go_at_call 140; ((with_reducible refine (isEisenstein_any HR.out hp hm).mono ?_); rintro e w' ⟨rfl, rfl⟩)))
    go_ret2
    exact ⟨rfl, rfl⟩
  · have hb : (extC p f != 0) = true := by simpa using hc
    have hv : val p f = false := by unfold val; rw [if_neg hc]
    rw [hv]
    clear hc
    go_enter Try.func69, Try.ntmps69
    go_wp2_with (go_at_call 139; ((with_reducible refine (extending_any HR.out).mono ?_); rintro e w' ⟨rfl, rfl⟩))
    go_ret2
    exact ⟨rfl, rfl⟩
set_option maxHeartbeats 1000000 in
theorem spec_any {p : Int} {v : Value} {f : List Int} {w : World} (h : Reads w v f) :
    Calls Try.prog 70 #[.int .i64 p, v] w fun e w' => e = .returned (.tuple #[.bool (val p f), .int .i64 (extC p f)]) ∧ w = w' := by
  have HR := Lib.hid h
  clear h
  by_cases hc : extC p f = 0
  · have HC := Lib.hid hc
    obtain ⟨s1, s2, s3⟩ := ext_ok hc
    have hp := small_bd s1
    have hm := (mon_ok s3).1
    have hv : val p f = eisB p f := by unfold val; rw [if_pos hc]
    rw [hv, hc]
    clear s1 s2 s3 hc hv
    go_enter Try.func70, Try.ntmps70
    go_wp2_with (first | (go_at_call 141; ((with_reducible refine (calls_int (l15Code_any HR.out) HC.out).mono ?_); rintro e w' ⟨rfl, rfl⟩)) | (go_at_call 142; ((with_reducible refine (l15Eisenstein_any HR.out hp hm).mono ?_); rintro e w' ⟨rfl, rfl⟩)))
    go_ret2
    exact ⟨rfl, rfl⟩
  · have hb : (extC p f != 0) = true := by simpa using hc
    have hv : val p f = false := by unfold val; rw [if_neg hc]
    rw [hv]
    clear hc
    go_enter Try.func70, Try.ntmps70
    go_wp2_with (go_at_call 141; ((with_reducible refine (l15Code_any HR.out).mono ?_); rintro e w' ⟨rfl, rfl⟩))
    go_ret2
    exact ⟨rfl, rfl⟩
end isEisenstein

end Go.Proofs.Ytlndfjplhfgicaa
