/- Contracts: EisensteinPolynomial. -/
import Derived.Test.YtlndfjplhfgicaaEf
namespace Go.Proofs.Ytlndfjplhfgicaa
open Go.RowKit
set_option linter.unusedVariables false
set_option linter.unusedSimpArgs false

theorem eis_ways (q n k : Int) : (smallB q = false ∧ eisC q n k = 1) ∨ (smallB q = true ∧ inB n 1 8 = false ∧ eisC q n k = 2) ∨ (smallB q = true ∧ inB n 1 8 = true ∧ inB k (-100) 100 = false ∧ eisC q n k = 2) ∨ (smallB q = true ∧ inB n 1 8 = true ∧ inB k (-100) 100 = true ∧ eisC q n k = 0) := by
  unfold eisC
  by_cases h1 : smallB q = true
  · rw [if_pos h1]
    by_cases h2 : inB n 1 8 = true
    · rw [if_pos h2]
      by_cases h3 : inB k (-100) 100 = true
      · rw [if_pos h3]; exact .inr (.inr (.inr ⟨h1, h2, h3, rfl⟩))
      · rw [if_neg h3]; exact .inr (.inr (.inl ⟨h1, h2, by simpa using h3, rfl⟩))
    · rw [if_neg h2]; exact .inr (.inl ⟨h1, by simpa using h2, rfl⟩)
  · rw [if_neg h1]; exact .inl ⟨by simpa using h1, rfl⟩

set_option maxHeartbeats 8000000 in
theorem EisensteinPolynomial_any (q n k : Int) (w : World) : Calls Try.prog 72 #[.int .i64 q, .int .i64 n, .int .i64 k] w (RetIC (eisL q n k) (eisC q n k) w) := by
  rcases eis_ways q n k with ⟨h1, hc⟩ | ⟨h1, h2, hc⟩ | ⟨h1, h2, h3, hc⟩ | ⟨h1, h2, h3, hc⟩
  · have H1 := Lib.hid h1
    have HC := Lib.hid hc
    clear h1 hc
    go_enter Try.func72, Try.ntmps72
    go_wp2_with (go_at_call 85; ((with_reducible refine (calls_bool (isSmallPrime_any _ _) H1.out).mono ?_); rintro e w' ⟨rfl, rfl⟩))
    go_ret2
    exact ⟨.slice none 0 0, by simp [HC.out], by simpa [eisL, HC.out] using Own.nil, Below.refl _ _⟩
  · have H1 := Lib.hid h1
    have H2 := Lib.hid h2
    have HC := Lib.hid hc
    clear h1 h2 hc
    go_enter Try.func72, Try.ntmps72
    go_wp2_with (first | (go_at_call 85; ((with_reducible refine (calls_bool (isSmallPrime_any _ _) H1.out).mono ?_); rintro e w' ⟨rfl, rfl⟩)) | (go_at_call 91; ((with_reducible refine (calls_bool (within_any _ _ _ _) H2.out).mono ?_); rintro e w' ⟨rfl, rfl⟩)))
    go_ret2
    exact ⟨.slice none 0 0, by simp [HC.out], by simpa [eisL, HC.out] using Own.nil, Below.refl _ _⟩
  · have H1 := Lib.hid h1
    have H2 := Lib.hid h2
    have H3 := Lib.hid h3
    have HC := Lib.hid hc
    clear h1 h2 h3 hc
    go_enter Try.func72, Try.ntmps72
    go_wp2_with (first | (go_at_call 85; ((with_reducible refine (calls_bool (isSmallPrime_any _ _) H1.out).mono ?_); rintro e w' ⟨rfl, rfl⟩)) | (go_at_call 91; ((with_reducible refine (calls_bool (within_any _ _ _ _) H2.out).mono ?_); rintro e w' ⟨rfl, rfl⟩)) | (go_at_call 91; ((with_reducible refine (calls_bool (within_any _ _ _ _) H3.out).mono ?_); rintro e w' ⟨rfl, rfl⟩)))
    go_ret2
    exact ⟨.slice none 0 0, by simp [HC.out], by simpa [eisL, HC.out] using Own.nil, Below.refl _ _⟩
  · have H1 := Lib.hid h1
    have H3 := Lib.hid h3
    obtain ⟨n0, n1⟩ := inB_iff.1 h2
    obtain ⟨k0, k1⟩ := inB_iff.1 h3
    obtain ⟨q0, q1⟩ := small_bd h1
    have hqk : -9700 ≤ q * k ∧ q * k ≤ 9700 := by
      have m1 := Int.mul_le_mul_of_nonneg_left k1 (show 0 ≤ q by omega)
      have m2 := Int.mul_le_mul_of_nonneg_left k0 (show 0 ≤ q by omega)
      omega
    obtain ⟨m0, m1⟩ := hqk
    have HL := Lib.hid (show eisL q n k = eisP q n.toNat k by unfold eisL; rw [if_pos hc])
    have HC := Lib.hid hc
    clear h1 h3 hc
    rcases (show n = 1 ∨ n = 2 ∨ n = 3 ∨ n = 4 ∨ n = 5 ∨ n = 6 ∨ n = 7 ∨ n = 8 by omega) with rfl | rfl | rfl | rfl | rfl | rfl | rfl | rfl
    · have H2 := Lib.hid h2
      clear h2
      go_enter Try.func72, Try.ntmps72
      go_wp2_with (first | (go_at_call 85; ((with_reducible refine (calls_bool (isSmallPrime_any _ _) H1.out).mono ?_); rintro e w' ⟨rfl, rfl⟩)) | (go_at_call 91; ((with_reducible refine (calls_bool (within_any _ _ _ _) H2.out).mono ?_); rintro e w' ⟨rfl, rfl⟩)) | (go_at_call 91; ((with_reducible refine (calls_bool (within_any _ _ _ _) H3.out).mono ?_); rintro e w' ⟨rfl, rfl⟩)) | (at_make; refine make_ints _ rfl _ _ rfl 2 rfl rfl (by omega) (by omega) (by omega) ?_))
      intro w1 ho hb1 hs1
      have HO := Lib.hid ho
      have HB := Lib.hid hb1
      clear ho hb1
      have c0 := HO.out.cellAt (i := 0) (by simp)
      have c1 := HO.out.cellAt (i := 1) (by simp)
      have cm := HO.out.cellAt (i := 1) (by simp)
      have fr := HO.out.frozenAt
      obtain ⟨s1, _⟩ := HO.out.stored 0 q
      obtain ⟨s2, _⟩ := s1.stored 1 1
      go_wp2
      go_ret2
      exact ⟨.slice (some ⟨w.heap.size, 0, none⟩) 2 2, by simp [HC.out], by
        rw [HL.out, show eisP q (1 : Int).toNat k = (((List.replicate 2 0).set 0 q).set 1 1) from by simp [eisP, List.replicate]]
        exact s2, (((HB.out.setCell (Nat.le_refl _) _).setCell (Nat.le_refl _) _))⟩
    · have H2 := Lib.hid h2
      clear h2
      go_enter Try.func72, Try.ntmps72
      go_wp2_with (first | (go_at_call 85; ((with_reducible refine (calls_bool (isSmallPrime_any _ _) H1.out).mono ?_); rintro e w' ⟨rfl, rfl⟩)) | (go_at_call 91; ((with_reducible refine (calls_bool (within_any _ _ _ _) H2.out).mono ?_); rintro e w' ⟨rfl, rfl⟩)) | (go_at_call 91; ((with_reducible refine (calls_bool (within_any _ _ _ _) H3.out).mono ?_); rintro e w' ⟨rfl, rfl⟩)) | (at_make; refine make_ints _ rfl _ _ rfl 3 rfl rfl (by omega) (by omega) (by omega) ?_))
      intro w1 ho hb1 hs1
      have HO := Lib.hid ho
      have HB := Lib.hid hb1
      clear ho hb1
      have c0 := HO.out.cellAt (i := 0) (by simp)
      have c1 := HO.out.cellAt (i := 1) (by simp)
      have cm := HO.out.cellAt (i := 2) (by simp)
      have fr := HO.out.frozenAt
      obtain ⟨s1, _⟩ := HO.out.stored 0 q
      obtain ⟨s2, _⟩ := s1.stored 2 1
      go_wp2
      go_ret2
      exact ⟨.slice (some ⟨w.heap.size, 0, none⟩) 3 3, by simp [HC.out], by
        rw [HL.out, show eisP q (2 : Int).toNat k = (((List.replicate 3 0).set 0 q).set 2 1).set 1 (q * k) from by simp [eisP, List.replicate]]
        exact (s2.stored 1 (q * k)).1, ((((HB.out.setCell (Nat.le_refl _) _).setCell (Nat.le_refl _) _).setCell (Nat.le_refl _) _))⟩
    · have H2 := Lib.hid h2
      clear h2
      go_enter Try.func72, Try.ntmps72
      go_wp2_with (first | (go_at_call 85; ((with_reducible refine (calls_bool (isSmallPrime_any _ _) H1.out).mono ?_); rintro e w' ⟨rfl, rfl⟩)) | (go_at_call 91; ((with_reducible refine (calls_bool (within_any _ _ _ _) H2.out).mono ?_); rintro e w' ⟨rfl, rfl⟩)) | (go_at_call 91; ((with_reducible refine (calls_bool (within_any _ _ _ _) H3.out).mono ?_); rintro e w' ⟨rfl, rfl⟩)) | (at_make; refine make_ints _ rfl _ _ rfl 4 rfl rfl (by omega) (by omega) (by omega) ?_))
      intro w1 ho hb1 hs1
      have HO := Lib.hid ho
      have HB := Lib.hid hb1
      clear ho hb1
      have c0 := HO.out.cellAt (i := 0) (by simp)
      have c1 := HO.out.cellAt (i := 1) (by simp)
      have cm := HO.out.cellAt (i := 3) (by simp)
      have fr := HO.out.frozenAt
      obtain ⟨s1, _⟩ := HO.out.stored 0 q
      obtain ⟨s2, _⟩ := s1.stored 3 1
      go_wp2
      go_ret2
      exact ⟨.slice (some ⟨w.heap.size, 0, none⟩) 4 4, by simp [HC.out], by
        rw [HL.out, show eisP q (3 : Int).toNat k = (((List.replicate 4 0).set 0 q).set 3 1).set 1 (q * k) from by simp [eisP, List.replicate]]
        exact (s2.stored 1 (q * k)).1, ((((HB.out.setCell (Nat.le_refl _) _).setCell (Nat.le_refl _) _).setCell (Nat.le_refl _) _))⟩
    · have H2 := Lib.hid h2
      clear h2
      go_enter Try.func72, Try.ntmps72
      go_wp2_with (first | (go_at_call 85; ((with_reducible refine (calls_bool (isSmallPrime_any _ _) H1.out).mono ?_); rintro e w' ⟨rfl, rfl⟩)) | (go_at_call 91; ((with_reducible refine (calls_bool (within_any _ _ _ _) H2.out).mono ?_); rintro e w' ⟨rfl, rfl⟩)) | (go_at_call 91; ((with_reducible refine (calls_bool (within_any _ _ _ _) H3.out).mono ?_); rintro e w' ⟨rfl, rfl⟩)) | (at_make; refine make_ints _ rfl _ _ rfl 5 rfl rfl (by omega) (by omega) (by omega) ?_))
      intro w1 ho hb1 hs1
      have HO := Lib.hid ho
      have HB := Lib.hid hb1
      clear ho hb1
      have c0 := HO.out.cellAt (i := 0) (by simp)
      have c1 := HO.out.cellAt (i := 1) (by simp)
      have cm := HO.out.cellAt (i := 4) (by simp)
      have fr := HO.out.frozenAt
      obtain ⟨s1, _⟩ := HO.out.stored 0 q
      obtain ⟨s2, _⟩ := s1.stored 4 1
      go_wp2
      go_ret2
      exact ⟨.slice (some ⟨w.heap.size, 0, none⟩) 5 5, by simp [HC.out], by
        rw [HL.out, show eisP q (4 : Int).toNat k = (((List.replicate 5 0).set 0 q).set 4 1).set 1 (q * k) from by simp [eisP, List.replicate]]
        exact (s2.stored 1 (q * k)).1, ((((HB.out.setCell (Nat.le_refl _) _).setCell (Nat.le_refl _) _).setCell (Nat.le_refl _) _))⟩
    · have H2 := Lib.hid h2
      clear h2
      go_enter Try.func72, Try.ntmps72
      go_wp2_with (first | (go_at_call 85; ((with_reducible refine (calls_bool (isSmallPrime_any _ _) H1.out).mono ?_); rintro e w' ⟨rfl, rfl⟩)) | (go_at_call 91; ((with_reducible refine (calls_bool (within_any _ _ _ _) H2.out).mono ?_); rintro e w' ⟨rfl, rfl⟩)) | (go_at_call 91; ((with_reducible refine (calls_bool (within_any _ _ _ _) H3.out).mono ?_); rintro e w' ⟨rfl, rfl⟩)) | (at_make; refine make_ints _ rfl _ _ rfl 6 rfl rfl (by omega) (by omega) (by omega) ?_))
      intro w1 ho hb1 hs1
      have HO := Lib.hid ho
      have HB := Lib.hid hb1
      clear ho hb1
      have c0 := HO.out.cellAt (i := 0) (by simp)
      have c1 := HO.out.cellAt (i := 1) (by simp)
      have cm := HO.out.cellAt (i := 5) (by simp)
      have fr := HO.out.frozenAt
      obtain ⟨s1, _⟩ := HO.out.stored 0 q
      obtain ⟨s2, _⟩ := s1.stored 5 1
      go_wp2
      go_ret2
      exact ⟨.slice (some ⟨w.heap.size, 0, none⟩) 6 6, by simp [HC.out], by
        rw [HL.out, show eisP q (5 : Int).toNat k = (((List.replicate 6 0).set 0 q).set 5 1).set 1 (q * k) from by simp [eisP, List.replicate]]
        exact (s2.stored 1 (q * k)).1, ((((HB.out.setCell (Nat.le_refl _) _).setCell (Nat.le_refl _) _).setCell (Nat.le_refl _) _))⟩
    · have H2 := Lib.hid h2
      clear h2
      go_enter Try.func72, Try.ntmps72
      go_wp2_with (first | (go_at_call 85; ((with_reducible refine (calls_bool (isSmallPrime_any _ _) H1.out).mono ?_); rintro e w' ⟨rfl, rfl⟩)) | (go_at_call 91; ((with_reducible refine (calls_bool (within_any _ _ _ _) H2.out).mono ?_); rintro e w' ⟨rfl, rfl⟩)) | (go_at_call 91; ((with_reducible refine (calls_bool (within_any _ _ _ _) H3.out).mono ?_); rintro e w' ⟨rfl, rfl⟩)) | (at_make; refine make_ints _ rfl _ _ rfl 7 rfl rfl (by omega) (by omega) (by omega) ?_))
      intro w1 ho hb1 hs1
      have HO := Lib.hid ho
      have HB := Lib.hid hb1
      clear ho hb1
      have c0 := HO.out.cellAt (i := 0) (by simp)
      have c1 := HO.out.cellAt (i := 1) (by simp)
      have cm := HO.out.cellAt (i := 6) (by simp)
      have fr := HO.out.frozenAt
      obtain ⟨s1, _⟩ := HO.out.stored 0 q
      obtain ⟨s2, _⟩ := s1.stored 6 1
      go_wp2
      go_ret2
      exact ⟨.slice (some ⟨w.heap.size, 0, none⟩) 7 7, by simp [HC.out], by
        rw [HL.out, show eisP q (6 : Int).toNat k = (((List.replicate 7 0).set 0 q).set 6 1).set 1 (q * k) from by simp [eisP, List.replicate]]
        exact (s2.stored 1 (q * k)).1, ((((HB.out.setCell (Nat.le_refl _) _).setCell (Nat.le_refl _) _).setCell (Nat.le_refl _) _))⟩
    · have H2 := Lib.hid h2
      clear h2
      go_enter Try.func72, Try.ntmps72
      go_wp2_with (first | (go_at_call 85; ((with_reducible refine (calls_bool (isSmallPrime_any _ _) H1.out).mono ?_); rintro e w' ⟨rfl, rfl⟩)) | (go_at_call 91; ((with_reducible refine (calls_bool (within_any _ _ _ _) H2.out).mono ?_); rintro e w' ⟨rfl, rfl⟩)) | (go_at_call 91; ((with_reducible refine (calls_bool (within_any _ _ _ _) H3.out).mono ?_); rintro e w' ⟨rfl, rfl⟩)) | (at_make; refine make_ints _ rfl _ _ rfl 8 rfl rfl (by omega) (by omega) (by omega) ?_))
      intro w1 ho hb1 hs1
      have HO := Lib.hid ho
      have HB := Lib.hid hb1
      clear ho hb1
      have c0 := HO.out.cellAt (i := 0) (by simp)
      have c1 := HO.out.cellAt (i := 1) (by simp)
      have cm := HO.out.cellAt (i := 7) (by simp)
      have fr := HO.out.frozenAt
      obtain ⟨s1, _⟩ := HO.out.stored 0 q
      obtain ⟨s2, _⟩ := s1.stored 7 1
      go_wp2
      go_ret2
      exact ⟨.slice (some ⟨w.heap.size, 0, none⟩) 8 8, by simp [HC.out], by
        rw [HL.out, show eisP q (7 : Int).toNat k = (((List.replicate 8 0).set 0 q).set 7 1).set 1 (q * k) from by simp [eisP, List.replicate]]
        exact (s2.stored 1 (q * k)).1, ((((HB.out.setCell (Nat.le_refl _) _).setCell (Nat.le_refl _) _).setCell (Nat.le_refl _) _))⟩
    · have H2 := Lib.hid h2
      clear h2
      go_enter Try.func72, Try.ntmps72
      go_wp2_with (first | (go_at_call 85; ((with_reducible refine (calls_bool (isSmallPrime_any _ _) H1.out).mono ?_); rintro e w' ⟨rfl, rfl⟩)) | (go_at_call 91; ((with_reducible refine (calls_bool (within_any _ _ _ _) H2.out).mono ?_); rintro e w' ⟨rfl, rfl⟩)) | (go_at_call 91; ((with_reducible refine (calls_bool (within_any _ _ _ _) H3.out).mono ?_); rintro e w' ⟨rfl, rfl⟩)) | (at_make; refine make_ints _ rfl _ _ rfl 9 rfl rfl (by omega) (by omega) (by omega) ?_))
      intro w1 ho hb1 hs1
      have HO := Lib.hid ho
      have HB := Lib.hid hb1
      clear ho hb1
      have c0 := HO.out.cellAt (i := 0) (by simp)
      have c1 := HO.out.cellAt (i := 1) (by simp)
      have cm := HO.out.cellAt (i := 8) (by simp)
      have fr := HO.out.frozenAt
      obtain ⟨s1, _⟩ := HO.out.stored 0 q
      obtain ⟨s2, _⟩ := s1.stored 8 1
      go_wp2
      go_ret2
      exact ⟨.slice (some ⟨w.heap.size, 0, none⟩) 9 9, by simp [HC.out], by
        rw [HL.out, show eisP q (8 : Int).toNat k = (((List.replicate 9 0).set 0 q).set 8 1).set 1 (q * k) from by simp [eisP, List.replicate]]
        exact (s2.stored 1 (q * k)).1, ((((HB.out.setCell (Nat.le_refl _) _).setCell (Nat.le_refl _) _).setCell (Nat.le_refl _) _))⟩

set_option maxHeartbeats 8000000 in
theorem sEisensteinPolynomial_any (q n k : Int) (w : World) : Calls Try.prog 73 #[.int .i64 q, .int .i64 n, .int .i64 k] w (RetIC (eisL q n k) (eisC q n k) w) := by
  rcases eis_ways q n k with ⟨h1, hc⟩ | ⟨h1, h2, hc⟩ | ⟨h1, h2, h3, hc⟩ | ⟨h1, h2, h3, hc⟩
  · have H1 := Lib.hid h1
    have HC := Lib.hid hc
    clear h1 hc
    go_enter Try.func73, Try.ntmps73
    go_wp2_with (go_at_call 88; ((with_reducible refine (calls_bool (l01Small_any _ _) H1.out).mono ?_); rintro e w' ⟨rfl, rfl⟩))
    go_ret2
    exact ⟨.slice none 0 0, by simp [HC.out], by simpa [eisL, HC.out] using Own.nil, Below.refl _ _⟩
  · have H1 := Lib.hid h1
    have H2 := Lib.hid h2
    have HC := Lib.hid hc
    clear h1 h2 hc
    go_enter Try.func73, Try.ntmps73
    go_wp2_with (first | (go_at_call 88; ((with_reducible refine (calls_bool (l01Small_any _ _) H1.out).mono ?_); rintro e w' ⟨rfl, rfl⟩)) | (go_at_call 74; ((with_reducible refine (calls_bool (l01In_any _ _ _ _) H2.out).mono ?_); rintro e w' ⟨rfl, rfl⟩)))
    go_ret2
    exact ⟨.slice none 0 0, by simp [HC.out], by simpa [eisL, HC.out] using Own.nil, Below.refl _ _⟩
  · have H1 := Lib.hid h1
    have H2 := Lib.hid h2
    have H3 := Lib.hid h3
    have HC := Lib.hid hc
    clear h1 h2 h3 hc
    go_enter Try.func73, Try.ntmps73
    go_wp2_with (first | (go_at_call 88; ((with_reducible refine (calls_bool (l01Small_any _ _) H1.out).mono ?_); rintro e w' ⟨rfl, rfl⟩)) | (go_at_call 74; ((with_reducible refine (calls_bool (l01In_any _ _ _ _) H2.out).mono ?_); rintro e w' ⟨rfl, rfl⟩)) | (go_at_call 74; ((with_reducible refine (calls_bool (l01In_any _ _ _ _) H3.out).mono ?_); rintro e w' ⟨rfl, rfl⟩)))
    go_ret2
    exact ⟨.slice none 0 0, by simp [HC.out], by simpa [eisL, HC.out] using Own.nil, Below.refl _ _⟩
  · have H1 := Lib.hid h1
    have H3 := Lib.hid h3
    obtain ⟨n0, n1⟩ := inB_iff.1 h2
    obtain ⟨k0, k1⟩ := inB_iff.1 h3
    obtain ⟨q0, q1⟩ := small_bd h1
    have hqk : -9700 ≤ q * k ∧ q * k ≤ 9700 := by
      have m1 := Int.mul_le_mul_of_nonneg_left k1 (show 0 ≤ q by omega)
      have m2 := Int.mul_le_mul_of_nonneg_left k0 (show 0 ≤ q by omega)
      omega
    obtain ⟨m0, m1⟩ := hqk
    have HL := Lib.hid (show eisL q n k = eisP q n.toNat k by unfold eisL; rw [if_pos hc])
    have HC := Lib.hid hc
    clear h1 h3 hc
    rcases (show n = 1 ∨ n = 2 ∨ n = 3 ∨ n = 4 ∨ n = 5 ∨ n = 6 ∨ n = 7 ∨ n = 8 by omega) with rfl | rfl | rfl | rfl | rfl | rfl | rfl | rfl
    · have H2 := Lib.hid h2
      clear h2
      go_enter Try.func73, Try.ntmps73
      go_wp2_with (first | (go_at_call 88; ((with_reducible refine (calls_bool (l01Small_any _ _) H1.out).mono ?_); rintro e w' ⟨rfl, rfl⟩)) | (go_at_call 74; ((with_reducible refine (calls_bool (l01In_any _ _ _ _) H2.out).mono ?_); rintro e w' ⟨rfl, rfl⟩)) | (go_at_call 74; ((with_reducible refine (calls_bool (l01In_any _ _ _ _) H3.out).mono ?_); rintro e w' ⟨rfl, rfl⟩)) | (at_make; refine make_ints _ rfl _ _ rfl 2 rfl rfl (by omega) (by omega) (by omega) ?_))
      intro w1 ho hb1 hs1
      have HO := Lib.hid ho
      have HB := Lib.hid hb1
      clear ho hb1
      have c0 := HO.out.cellAt (i := 0) (by simp)
      have c1 := HO.out.cellAt (i := 1) (by simp)
      have cm := HO.out.cellAt (i := 1) (by simp)
      have fr := HO.out.frozenAt
      obtain ⟨s1, _⟩ := HO.out.stored 1 1
      obtain ⟨s2, _⟩ := s1.stored 0 q
      go_wp2
      go_ret2
      exact ⟨.slice (some ⟨w.heap.size, 0, none⟩) 2 2, by simp [HC.out], by
        rw [HL.out, show eisP q (1 : Int).toNat k = (((List.replicate 2 0).set 1 1).set 0 q) from by simp [eisP, List.replicate]]
        exact s2, (((HB.out.setCell (Nat.le_refl _) _).setCell (Nat.le_refl _) _))⟩
    · have H2 := Lib.hid h2
      clear h2
      go_enter Try.func73, Try.ntmps73
      go_wp2_with (first | (go_at_call 88; ((with_reducible refine (calls_bool (l01Small_any _ _) H1.out).mono ?_); rintro e w' ⟨rfl, rfl⟩)) | (go_at_call 74; ((with_reducible refine (calls_bool (l01In_any _ _ _ _) H2.out).mono ?_); rintro e w' ⟨rfl, rfl⟩)) | (go_at_call 74; ((with_reducible refine (calls_bool (l01In_any _ _ _ _) H3.out).mono ?_); rintro e w' ⟨rfl, rfl⟩)) | (at_make; refine make_ints _ rfl _ _ rfl 3 rfl rfl (by omega) (by omega) (by omega) ?_))
      intro w1 ho hb1 hs1
      have HO := Lib.hid ho
      have HB := Lib.hid hb1
      clear ho hb1
      have c0 := HO.out.cellAt (i := 0) (by simp)
      have c1 := HO.out.cellAt (i := 1) (by simp)
      have cm := HO.out.cellAt (i := 2) (by simp)
      have fr := HO.out.frozenAt
      obtain ⟨s1, _⟩ := HO.out.stored 2 1
      obtain ⟨s2, _⟩ := s1.stored 0 q
      go_wp2
      go_ret2
      exact ⟨.slice (some ⟨w.heap.size, 0, none⟩) 3 3, by simp [HC.out], by
        rw [HL.out, show eisP q (2 : Int).toNat k = (((List.replicate 3 0).set 2 1).set 0 q).set 1 (q * k) from by simp [eisP, List.replicate]]
        exact (s2.stored 1 (q * k)).1, ((((HB.out.setCell (Nat.le_refl _) _).setCell (Nat.le_refl _) _).setCell (Nat.le_refl _) _))⟩
    · have H2 := Lib.hid h2
      clear h2
      go_enter Try.func73, Try.ntmps73
      go_wp2_with (first | (go_at_call 88; ((with_reducible refine (calls_bool (l01Small_any _ _) H1.out).mono ?_); rintro e w' ⟨rfl, rfl⟩)) | (go_at_call 74; ((with_reducible refine (calls_bool (l01In_any _ _ _ _) H2.out).mono ?_); rintro e w' ⟨rfl, rfl⟩)) | (go_at_call 74; ((with_reducible refine (calls_bool (l01In_any _ _ _ _) H3.out).mono ?_); rintro e w' ⟨rfl, rfl⟩)) | (at_make; refine make_ints _ rfl _ _ rfl 4 rfl rfl (by omega) (by omega) (by omega) ?_))
      intro w1 ho hb1 hs1
      have HO := Lib.hid ho
      have HB := Lib.hid hb1
      clear ho hb1
      have c0 := HO.out.cellAt (i := 0) (by simp)
      have c1 := HO.out.cellAt (i := 1) (by simp)
      have cm := HO.out.cellAt (i := 3) (by simp)
      have fr := HO.out.frozenAt
      obtain ⟨s1, _⟩ := HO.out.stored 3 1
      obtain ⟨s2, _⟩ := s1.stored 0 q
      go_wp2
      go_ret2
      exact ⟨.slice (some ⟨w.heap.size, 0, none⟩) 4 4, by simp [HC.out], by
        rw [HL.out, show eisP q (3 : Int).toNat k = (((List.replicate 4 0).set 3 1).set 0 q).set 1 (q * k) from by simp [eisP, List.replicate]]
        exact (s2.stored 1 (q * k)).1, ((((HB.out.setCell (Nat.le_refl _) _).setCell (Nat.le_refl _) _).setCell (Nat.le_refl _) _))⟩
    · have H2 := Lib.hid h2
      clear h2
      go_enter Try.func73, Try.ntmps73
      go_wp2_with (first | (go_at_call 88; ((with_reducible refine (calls_bool (l01Small_any _ _) H1.out).mono ?_); rintro e w' ⟨rfl, rfl⟩)) | (go_at_call 74; ((with_reducible refine (calls_bool (l01In_any _ _ _ _) H2.out).mono ?_); rintro e w' ⟨rfl, rfl⟩)) | (go_at_call 74; ((with_reducible refine (calls_bool (l01In_any _ _ _ _) H3.out).mono ?_); rintro e w' ⟨rfl, rfl⟩)) | (at_make; refine make_ints _ rfl _ _ rfl 5 rfl rfl (by omega) (by omega) (by omega) ?_))
      intro w1 ho hb1 hs1
      have HO := Lib.hid ho
      have HB := Lib.hid hb1
      clear ho hb1
      have c0 := HO.out.cellAt (i := 0) (by simp)
      have c1 := HO.out.cellAt (i := 1) (by simp)
      have cm := HO.out.cellAt (i := 4) (by simp)
      have fr := HO.out.frozenAt
      obtain ⟨s1, _⟩ := HO.out.stored 4 1
      obtain ⟨s2, _⟩ := s1.stored 0 q
      go_wp2
      go_ret2
      exact ⟨.slice (some ⟨w.heap.size, 0, none⟩) 5 5, by simp [HC.out], by
        rw [HL.out, show eisP q (4 : Int).toNat k = (((List.replicate 5 0).set 4 1).set 0 q).set 1 (q * k) from by simp [eisP, List.replicate]]
        exact (s2.stored 1 (q * k)).1, ((((HB.out.setCell (Nat.le_refl _) _).setCell (Nat.le_refl _) _).setCell (Nat.le_refl _) _))⟩
    · have H2 := Lib.hid h2
      clear h2
      go_enter Try.func73, Try.ntmps73
      go_wp2_with (first | (go_at_call 88; ((with_reducible refine (calls_bool (l01Small_any _ _) H1.out).mono ?_); rintro e w' ⟨rfl, rfl⟩)) | (go_at_call 74; ((with_reducible refine (calls_bool (l01In_any _ _ _ _) H2.out).mono ?_); rintro e w' ⟨rfl, rfl⟩)) | (go_at_call 74; ((with_reducible refine (calls_bool (l01In_any _ _ _ _) H3.out).mono ?_); rintro e w' ⟨rfl, rfl⟩)) | (at_make; refine make_ints _ rfl _ _ rfl 6 rfl rfl (by omega) (by omega) (by omega) ?_))
      intro w1 ho hb1 hs1
      have HO := Lib.hid ho
      have HB := Lib.hid hb1
      clear ho hb1
      have c0 := HO.out.cellAt (i := 0) (by simp)
      have c1 := HO.out.cellAt (i := 1) (by simp)
      have cm := HO.out.cellAt (i := 5) (by simp)
      have fr := HO.out.frozenAt
      obtain ⟨s1, _⟩ := HO.out.stored 5 1
      obtain ⟨s2, _⟩ := s1.stored 0 q
      go_wp2
      go_ret2
      exact ⟨.slice (some ⟨w.heap.size, 0, none⟩) 6 6, by simp [HC.out], by
        rw [HL.out, show eisP q (5 : Int).toNat k = (((List.replicate 6 0).set 5 1).set 0 q).set 1 (q * k) from by simp [eisP, List.replicate]]
        exact (s2.stored 1 (q * k)).1, ((((HB.out.setCell (Nat.le_refl _) _).setCell (Nat.le_refl _) _).setCell (Nat.le_refl _) _))⟩
    · have H2 := Lib.hid h2
      clear h2
      go_enter Try.func73, Try.ntmps73
      go_wp2_with (first | (go_at_call 88; ((with_reducible refine (calls_bool (l01Small_any _ _) H1.out).mono ?_); rintro e w' ⟨rfl, rfl⟩)) | (go_at_call 74; ((with_reducible refine (calls_bool (l01In_any _ _ _ _) H2.out).mono ?_); rintro e w' ⟨rfl, rfl⟩)) | (go_at_call 74; ((with_reducible refine (calls_bool (l01In_any _ _ _ _) H3.out).mono ?_); rintro e w' ⟨rfl, rfl⟩)) | (at_make; refine make_ints _ rfl _ _ rfl 7 rfl rfl (by omega) (by omega) (by omega) ?_))
      intro w1 ho hb1 hs1
      have HO := Lib.hid ho
      have HB := Lib.hid hb1
      clear ho hb1
      have c0 := HO.out.cellAt (i := 0) (by simp)
      have c1 := HO.out.cellAt (i := 1) (by simp)
      have cm := HO.out.cellAt (i := 6) (by simp)
      have fr := HO.out.frozenAt
      obtain ⟨s1, _⟩ := HO.out.stored 6 1
      obtain ⟨s2, _⟩ := s1.stored 0 q
      go_wp2
      go_ret2
      exact ⟨.slice (some ⟨w.heap.size, 0, none⟩) 7 7, by simp [HC.out], by
        rw [HL.out, show eisP q (6 : Int).toNat k = (((List.replicate 7 0).set 6 1).set 0 q).set 1 (q * k) from by simp [eisP, List.replicate]]
        exact (s2.stored 1 (q * k)).1, ((((HB.out.setCell (Nat.le_refl _) _).setCell (Nat.le_refl _) _).setCell (Nat.le_refl _) _))⟩
    · have H2 := Lib.hid h2
      clear h2
      go_enter Try.func73, Try.ntmps73
      go_wp2_with (first | (go_at_call 88; ((with_reducible refine (calls_bool (l01Small_any _ _) H1.out).mono ?_); rintro e w' ⟨rfl, rfl⟩)) | (go_at_call 74; ((with_reducible refine (calls_bool (l01In_any _ _ _ _) H2.out).mono ?_); rintro e w' ⟨rfl, rfl⟩)) | (go_at_call 74; ((with_reducible refine (calls_bool (l01In_any _ _ _ _) H3.out).mono ?_); rintro e w' ⟨rfl, rfl⟩)) | (at_make; refine make_ints _ rfl _ _ rfl 8 rfl rfl (by omega) (by omega) (by omega) ?_))
      intro w1 ho hb1 hs1
      have HO := Lib.hid ho
      have HB := Lib.hid hb1
      clear ho hb1
      have c0 := HO.out.cellAt (i := 0) (by simp)
      have c1 := HO.out.cellAt (i := 1) (by simp)
      have cm := HO.out.cellAt (i := 7) (by simp)
      have fr := HO.out.frozenAt
      obtain ⟨s1, _⟩ := HO.out.stored 7 1
      obtain ⟨s2, _⟩ := s1.stored 0 q
      go_wp2
      go_ret2
      exact ⟨.slice (some ⟨w.heap.size, 0, none⟩) 8 8, by simp [HC.out], by
        rw [HL.out, show eisP q (7 : Int).toNat k = (((List.replicate 8 0).set 7 1).set 0 q).set 1 (q * k) from by simp [eisP, List.replicate]]
        exact (s2.stored 1 (q * k)).1, ((((HB.out.setCell (Nat.le_refl _) _).setCell (Nat.le_refl _) _).setCell (Nat.le_refl _) _))⟩
    · have H2 := Lib.hid h2
      clear h2
      go_enter Try.func73, Try.ntmps73
      go_wp2_with (first | (go_at_call 88; ((with_reducible refine (calls_bool (l01Small_any _ _) H1.out).mono ?_); rintro e w' ⟨rfl, rfl⟩)) | (go_at_call 74; ((with_reducible refine (calls_bool (l01In_any _ _ _ _) H2.out).mono ?_); rintro e w' ⟨rfl, rfl⟩)) | (go_at_call 74; ((with_reducible refine (calls_bool (l01In_any _ _ _ _) H3.out).mono ?_); rintro e w' ⟨rfl, rfl⟩)) | (at_make; refine make_ints _ rfl _ _ rfl 9 rfl rfl (by omega) (by omega) (by omega) ?_))
      intro w1 ho hb1 hs1
      have HO := Lib.hid ho
      have HB := Lib.hid hb1
      clear ho hb1
      have c0 := HO.out.cellAt (i := 0) (by simp)
      have c1 := HO.out.cellAt (i := 1) (by simp)
      have cm := HO.out.cellAt (i := 8) (by simp)
      have fr := HO.out.frozenAt
      obtain ⟨s1, _⟩ := HO.out.stored 8 1
      obtain ⟨s2, _⟩ := s1.stored 0 q
      go_wp2
      go_ret2
      exact ⟨.slice (some ⟨w.heap.size, 0, none⟩) 9 9, by simp [HC.out], by
        rw [HL.out, show eisP q (8 : Int).toNat k = (((List.replicate 9 0).set 8 1).set 0 q).set 1 (q * k) from by simp [eisP, List.replicate]]
        exact (s2.stored 1 (q * k)).1, ((((HB.out.setCell (Nat.le_refl _) _).setCell (Nat.le_refl _) _).setCell (Nat.le_refl _) _))⟩

end Go.Proofs.Ytlndfjplhfgicaa
