/- Contracts: Hilbert symbols. -/
import Derived.Test.YtjampkjgapkklaaI
namespace Go.Proofs.Ytjampkjgapkklaa
open Go.RowKit
set_option linter.unusedVariables false
set_option linter.unusedSimpArgs false

def hil2 (k m x y : Int) : Int := signV ((x - 1) / 2 * ((y - 1) / 2) + k * ((y * y - 1) / 8) + m * ((x * x - 1) / 8))
def hilP (p k m u v : Int) : Int := signV (k * m * ((p - 1) / 2)) * (if m % 2 = 1 then legV p u else 1) * (if k % 2 = 1 then legV p v else 1)
def hilV (p a b : Int) : Int := if p = 0 then (if a < 0 ∧ b < 0 then -1 else 1) else if p = 2 then hil2 (vp p a) (vp p b) (a / p ^ vp p a % 8) (b / p ^ vp p b % 8) else hilP p (vp p a) (vp p b) (a / p ^ vp p a) (b / p ^ vp p b)
theorem vp40 {p n : Int} (hp : 2 ≤ p) (hn : n ≠ 0) (h : -1000000000000 ≤ n ∧ n ≤ 1000000000000) : (vp p n : Int) ≤ 39 := by
  have h1 := (vp_pow_le hp hn).2
  have h2 := pow_ge_two hp (vp p n)
  apply Decidable.byContradiction
  intro h3
  have h4 := pow_mono (show (1 : Int) ≤ 2 by decide) (show 40 ≤ vp p n by omega)
  have h5 : (2 : Int) ^ 40 = 1099511627776 := by decide
  omega
theorem odd8 {n : Int} (hn : n ≠ 0) : 1 ≤ n / 2 ^ vp 2 n % 8 ∧ n / 2 ^ vp 2 n % 8 ≤ 7 := by
  have := (vp_spec (p := 2) (by omega) hn).2.1
  omega
theorem hil2_bd {k m x y : Int} (hk : 0 ≤ k ∧ k ≤ 39) (hm : 0 ≤ m ∧ m ≤ 39) (hx : 1 ≤ x ∧ x ≤ 7) (hy : 1 ≤ y ∧ y ≤ 7) :
    (0 ≤ (x - 1) / 2 * ((y - 1) / 2) ∧ (x - 1) / 2 * ((y - 1) / 2) ≤ 9) ∧ (1 ≤ y * y ∧ y * y ≤ 49) ∧ (1 ≤ x * x ∧ x * x ≤ 49) ∧ (0 ≤ k * ((y * y - 1) / 8) ∧ k * ((y * y - 1) / 8) ≤ 234) ∧ (0 ≤ m * ((x * x - 1) / 8) ∧ m * ((x * x - 1) / 8) ≤ 234) := by
  have sq : ∀ z : Int, 1 ≤ z ∧ z ≤ 7 → 1 ≤ z * z ∧ z * z ≤ 49 := by
    intro z hz
    have h1 := Int.mul_le_mul hz.2 hz.2 (by omega) (by omega)
    have h2 := Int.mul_le_mul hz.1 hz.1 (by omega) (by omega)
    omega
  have sx := sq x hx
  have sy := sq y hy
  refine ⟨⟨Int.mul_nonneg (by omega) (by omega), ?_⟩, sy, sx, ⟨Int.mul_nonneg (by omega) (by omega), ?_⟩, ⟨Int.mul_nonneg (by omega) (by omega), ?_⟩⟩
  · have := Int.mul_le_mul (show (x - 1) / 2 ≤ 3 by omega) (show (y - 1) / 2 ≤ 3 by omega) (by omega) (by omega); omega
  · have := Int.mul_le_mul hk.2 (show (y * y - 1) / 8 ≤ 6 by omega) (by omega) (by omega); omega
  · have := Int.mul_le_mul hm.2 (show (x * x - 1) / 8 ≤ 6 by omega) (by omega) (by omega); omega
theorem hilP_bd {k m q : Int} (hk : 0 ≤ k ∧ k ≤ 39) (hm : 0 ≤ m ∧ m ≤ 39) (hq : 0 ≤ q ∧ q ≤ 48) : (0 ≤ k * m ∧ k * m ≤ 1521) ∧ (0 ≤ k * m * q ∧ k * m * q ≤ 73008) := by
  have h1 := Int.mul_le_mul hk.2 hm.2 hm.1 (by omega)
  have h2 := Int.mul_nonneg hk.1 hm.1
  have h3 := Int.mul_le_mul (show k * m ≤ 1521 by omega) hq.2 hq.1 (by omega)
  have h4 := Int.mul_nonneg h2 hq.1
  omega
theorem legV_cases (p a : Int) : legV p a = 0 ∨ legV p a = 1 ∨ legV p a = -1 := by
  unfold legV; split; exact .inl rfl; split; exact .inr (.inl rfl); exact .inr (.inr rfl)
theorem signV_cases (n : Int) : signV n = 1 ∨ signV n = -1 := by unfold signV; split; exact .inl rfl; exact .inr rfl

theorem one_mul_bd {x y : Int} (hx : -1 ≤ x ∧ x ≤ 1) (hy : -1 ≤ y ∧ y ≤ 1) : -1 ≤ x * y ∧ x * y ≤ 1 := by
  rcases (show x = -1 ∨ x = 0 ∨ x = 1 by omega) with h | h | h <;> rw [h] <;> omega

set_option maxHeartbeats 4000000 in
theorem hilbert_any (p a b : Int) (w : World) (hp : p = 0 ∨ (2 ≤ p ∧ p ≤ 97)) (ha : nzB a = true) (hb : nzB b = true) :
    Calls Try.prog 74 #[.int .i64 p, .int .i64 a, .int .i64 b] w fun e w' => e = .returned (.int .i64 (hilV p a b)) ∧ Below w.heap.size w w' := by
  obtain ⟨a1, a2⟩ := nz_iff.1 ha
  obtain ⟨b1, b2⟩ := nz_iff.1 hb
  clear ha hb
  rcases hp with hp | hp
  · have hp' : (p == 0) = true := by simpa using hp
    have HP := Lib.hid hp; clear hp
    by_cases ha : a < 0
    all_goals by_cases hb : b < 0
    all_goals
      go_enter Try.func74, Try.ntmps74
      go_wp2
      go_ret
      exact ⟨ret_int (by unfold hilV; rw [if_pos HP.out]; simp [*]), (by repeat (first | assumption | exact Below.refl _ _ | exact below_box _ | refine Below.drew ?_ | refine Below.setCell ?_ (by first | (simp; done) | (simp; omega)) _ | (refine below_step (by assumption) (by first | omega | (simp; done) | (simp; omega)) ?_) | (refine Below.alloc ?_ (by first | omega | (simp; done) | (simp; omega)) _)))⟩
  · have hp' : (p == 0) = false := by simp; omega
    have hp0 := Lib.hid (show ¬ p = 0 by omega)
    have ka := vp40 hp.1 a2 a1
    have kb := vp40 hp.1 b2 b1
    obtain ⟨⟨qa1, qa2⟩, ⟨qa3, qa4⟩, qa5, qa6⟩ := quo_facts hp.1 a2 ⟨by omega, by omega⟩
    obtain ⟨⟨qb1, qb2⟩, ⟨qb3, qb4⟩, qb5, qb6⟩ := quo_facts hp.1 b2 ⟨by omega, by omega⟩
    obtain ⟨ta1, ta2⟩ : -100000000000000000 ≤ a.tdiv (p ^ vp p a) ∧ a.tdiv (p ^ vp p a) ≤ 100000000000000000 := by rw [qa5]; omega
    obtain ⟨tb1, tb2⟩ : -100000000000000000 ≤ b.tdiv (p ^ vp p b) ∧ b.tdiv (p ^ vp p b) ≤ 100000000000000000 := by rw [qb5]; omega
    have QA := Lib.hid qa5; clear qa5
    have QB := Lib.hid qb5; clear qb5
    have na : ¬ p ^ vp p a = 0 := by omega
    have nb : ¬ p ^ vp p b = 0 := by omega
    by_cases h2 : p = 2
    · have h2' : (p == 2) = true := by simpa using h2
      obtain ⟨x, hx⟩ : ∃ x, a.tdiv (p ^ vp p a) % 8 = x := ⟨_, rfl⟩
      obtain ⟨y, hy⟩ : ∃ y, b.tdiv (p ^ vp p b) % 8 = y := ⟨_, rfl⟩
      have hx2 : 1 ≤ x ∧ x ≤ 7 := by rw [← hx, QA.out, h2]; exact odd8 a2
      have hy2 : 1 ≤ y ∧ y ≤ 7 := by rw [← hy, QB.out, h2]; exact odd8 b2
      obtain ⟨⟨e1, e2⟩, ⟨e3, e4⟩, ⟨e5, e6⟩, ⟨e7, e8⟩, ⟨e9, e10⟩⟩ := hil2_bd ⟨Int.natCast_nonneg _, ka⟩ ⟨Int.natCast_nonneg _, kb⟩ hx2 hy2
      have HX := Lib.hid hx; have HY := Lib.hid hy; have H2 := Lib.hid h2
      clear hx hy h2
      go_enter Try.func74, Try.ntmps74
      go_wp2_with (first | (go_at_call 98; ((with_reducible refine (valuation_any _ _ _ a2 (by omega) (by omega) hp.1 (by omega)).mono ?_); rintro e w' ⟨rfl, rfl⟩)) | (go_at_call 98; ((with_reducible refine (valuation_any _ _ _ b2 (by omega) (by omega) hp.1 (by omega)).mono ?_); rintro e w' ⟨rfl, rfl⟩)) | (go_at_call 58; ((with_reducible refine (power_any _ _ _ (by omega) (by rw [Int.toNat_natCast]; omega) (by rw [Int.toNat_natCast]; omega)).mono ?_); rintro e w' ⟨rfl, rfl⟩)) | (go_at_call 103; ((with_reducible refine (calls_int (mod_any _ _ _ (by omega) (by omega)) HX.out).mono ?_); rintro e w' ⟨rfl, rfl⟩)) | (go_at_call 103; ((with_reducible refine (calls_int (mod_any _ _ _ (by omega) (by omega)) HY.out).mono ?_); rintro e w' ⟨rfl, rfl⟩)) | (go_at_call 105; ((with_reducible refine (signOf_any _ _).mono ?_); rintro e w' ⟨rfl, rfl⟩)) | (refine wp_region_wext (by kernel_rfl) (by kernel_rfl) ?_; (repeat (go_big_quiet_step (first | (go_at_call 98; with_reducible refine calls_wext_same (valuation_any _ _ _ a2 (by omega) (by omega) hp.1 (by omega))) | (go_at_call 98; with_reducible refine calls_wext_same (valuation_any _ _ _ b2 (by omega) (by omega) hp.1 (by omega))) | (go_at_call 58; with_reducible refine calls_wext_same (power_any _ _ _ (by omega) (by rw [Int.toNat_natCast]; omega) (by rw [Int.toNat_natCast]; omega))) | (go_at_call 103; with_reducible refine calls_wext_same (calls_int (mod_any _ _ _ (by omega) (by omega)) HX.out)) | (go_at_call 103; with_reducible refine calls_wext_same (calls_int (mod_any _ _ _ (by omega) (by omega)) HY.out)) | (go_at_call 105; with_reducible refine calls_wext_same (signOf_any _ _))))); refine wpQuiet_nil ?_; intro w1_hbq hbq; replace hbq := below_of_wext hbq; obtain ⟨chbq, fhbq, shbq⟩ := bfacts2 hbq; (try simp at shbq)))
      go_ret
      exact ⟨ret_int (by unfold hilV; rw [if_neg hp0.out, if_pos H2.out]; unfold hil2; rw [← HX.out, ← HY.out, QA.out, QB.out]), (by repeat (first | assumption | exact Below.refl _ _ | exact below_box _ | refine Below.drew ?_ | refine Below.setCell ?_ (by first | (simp; done) | (simp; omega)) _ | (refine below_step (by assumption) (by first | omega | (simp; done) | (simp; omega)) ?_) | (refine Below.alloc ?_ (by first | omega | (simp; done) | (simp; omega)) _)))⟩
    · have h2' : (p == 2) = false := by simpa using h2
      obtain ⟨s, hs⟩ : ∃ s, signV ((vp p a : Int) * (vp p b : Int) * ((p - 1) / 2)) = s := ⟨_, rfl⟩
      obtain ⟨x, hx⟩ : ∃ x, legV p (a.tdiv (p ^ vp p a)) = x := ⟨_, rfl⟩
      obtain ⟨y, hy⟩ : ∃ y, legV p (b.tdiv (p ^ vp p b)) = y := ⟨_, rfl⟩
      obtain ⟨⟨e1, e2⟩, ⟨e3, e4⟩⟩ := hilP_bd ⟨Int.natCast_nonneg (vp p a), ka⟩ ⟨Int.natCast_nonneg (vp p b), kb⟩ (show 0 ≤ (p - 1) / 2 ∧ (p - 1) / 2 ≤ 48 by omega)
      have hs2 : -1 ≤ s ∧ s ≤ 1 := by rw [← hs]; rcases signV_cases ((vp p a : Int) * (vp p b : Int) * ((p - 1) / 2)) with h | h <;> rw [h] <;> omega
      have hx2 : -1 ≤ x ∧ x ≤ 1 := by rw [← hx]; rcases legV_cases p (a.tdiv (p ^ vp p a)) with h | h | h <;> rw [h] <;> omega
      have hy2 : -1 ≤ y ∧ y ≤ 1 := by rw [← hy]; rcases legV_cases p (b.tdiv (p ^ vp p b)) with h | h | h <;> rw [h] <;> omega
      have m1 := one_mul_bd hs2 hx2
      have m2 := one_mul_bd hs2 hy2
      have m3 := one_mul_bd m1 hy2
      have HS := Lib.hid hs; have HX := Lib.hid hx; have HY := Lib.hid hy; have H2 := Lib.hid h2
      clear hs hx hy h2
      rcases Bool.eq_false_or_eq_true ((vp p a : Int) % 2 == 1) with hk | hk
      all_goals rcases Bool.eq_false_or_eq_true ((vp p b : Int) % 2 == 1) with hm | hm
      all_goals
        go_enter Try.func74, Try.ntmps74
        go_wp2_with (first | (go_at_call 98; ((with_reducible refine (valuation_any _ _ _ a2 (by omega) (by omega) hp.1 (by omega)).mono ?_); rintro e w' ⟨rfl, rfl⟩)) | (go_at_call 98; ((with_reducible refine (valuation_any _ _ _ b2 (by omega) (by omega) hp.1 (by omega)).mono ?_); rintro e w' ⟨rfl, rfl⟩)) | (go_at_call 58; ((with_reducible refine (power_any _ _ _ (by omega) (by rw [Int.toNat_natCast]; omega) (by rw [Int.toNat_natCast]; omega)).mono ?_); rintro e w' ⟨rfl, rfl⟩)) | (go_at_call 105; ((with_reducible refine (calls_int (signOf_any _ _) HS.out).mono ?_); rintro e w' ⟨rfl, rfl⟩)) | (go_at_call 104; ((with_reducible refine (calls_int (squareSign_any _ _ _ hp ⟨by omega, by omega⟩) HX.out).mono ?_); rintro e w' ⟨rfl, rfl⟩)) | (go_at_call 104; ((with_reducible refine (calls_int (squareSign_any _ _ _ hp ⟨by omega, by omega⟩) HY.out).mono ?_); rintro e w' ⟨rfl, rfl⟩)) | (refine wp_region_wext (by kernel_rfl) (by kernel_rfl) ?_; (repeat (go_big_quiet_step (first | (go_at_call 98; with_reducible refine calls_wext_same (valuation_any _ _ _ a2 (by omega) (by omega) hp.1 (by omega))) | (go_at_call 98; with_reducible refine calls_wext_same (valuation_any _ _ _ b2 (by omega) (by omega) hp.1 (by omega))) | (go_at_call 58; with_reducible refine calls_wext_same (power_any _ _ _ (by omega) (by rw [Int.toNat_natCast]; omega) (by rw [Int.toNat_natCast]; omega))) | (go_at_call 105; with_reducible refine calls_wext_same (calls_int (signOf_any _ _) HS.out)) | (go_at_call 104; with_reducible refine calls_wext_same (calls_int (squareSign_any _ _ _ hp ⟨by omega, by omega⟩) HX.out)) | (go_at_call 104; with_reducible refine calls_wext_same (calls_int (squareSign_any _ _ _ hp ⟨by omega, by omega⟩) HY.out))))); refine wpQuiet_nil ?_; intro w1_hbq hbq; replace hbq := below_of_wext hbq; obtain ⟨chbq, fhbq, shbq⟩ := bfacts2 hbq; (try simp at shbq)))
        go_ret
        exact ⟨ret_int (by
          have hk' := hk; have hm' := hm
          simp only [beq_iff_eq, beq_eq_false_iff_ne, ne_eq] at hk' hm'
          unfold hilV; rw [if_neg hp0.out, if_neg H2.out]; unfold hilP; rw [HS.out, ← QA.out, ← QB.out, HX.out, HY.out]; simp [hk', hm']), (by repeat (first | assumption | exact Below.refl _ _ | exact below_box _ | refine Below.drew ?_ | refine Below.setCell ?_ (by first | (simp; done) | (simp; omega)) _ | (refine below_step (by assumption) (by first | omega | (simp; done) | (simp; omega)) ?_) | (refine Below.alloc ?_ (by first | omega | (simp; done) | (simp; omega)) _)))⟩

theorem signV_odd {n : Int} (h : (n % 2 == 1) = true) : signV n = -1 := by
  unfold signV; rw [beq_iff_eq] at h; rw [if_neg (by omega)]
theorem signV_even {n : Int} (h : (n % 2 == 1) = false) : signV n = 1 := by
  unfold signV; rw [beq_eq_false_iff_ne] at h; rw [if_pos (by omega)]

set_option maxHeartbeats 4000000 in
theorem l16Symbol_any (p a b : Int) (w : World) (hp : p = 0 ∨ (2 ≤ p ∧ p ≤ 97)) (ha : nzB a = true) (hb : nzB b = true) :
    Calls Try.prog 73 #[.int .i64 p, .int .i64 a, .int .i64 b] w fun e w' => e = .returned (.int .i64 (hilV p a b)) ∧ Below w.heap.size w w' := by
  obtain ⟨a1, a2⟩ := nz_iff.1 ha
  obtain ⟨b1, b2⟩ := nz_iff.1 hb
  clear ha hb
  rcases hp with hp | hp
  · have hp' : (p == 0) = true := by simpa using hp
    have HP := Lib.hid hp; clear hp
    by_cases ha : a < 0
    all_goals by_cases hb : b < 0
    all_goals
      go_enter Try.func73, Try.ntmps73
      go_wp2
      go_ret
      exact ⟨ret_int (by unfold hilV; rw [if_pos HP.out]; simp [*]), (by repeat (first | assumption | exact Below.refl _ _ | exact below_box _ | refine Below.drew ?_ | refine Below.setCell ?_ (by first | (simp; done) | (simp; omega)) _ | (refine below_step (by assumption) (by first | omega | (simp; done) | (simp; omega)) ?_) | (refine Below.alloc ?_ (by first | omega | (simp; done) | (simp; omega)) _)))⟩
  · have hp' : (p == 0) = false := by simp; omega
    have hp0 := Lib.hid (show ¬ p = 0 by omega)
    have ka := vp40 hp.1 a2 a1
    have kb := vp40 hp.1 b2 b1
    obtain ⟨⟨qa1, qa2⟩, ⟨qa3, qa4⟩, qa5, qa6⟩ := quo_facts hp.1 a2 ⟨by omega, by omega⟩
    obtain ⟨⟨qb1, qb2⟩, ⟨qb3, qb4⟩, qb5, qb6⟩ := quo_facts hp.1 b2 ⟨by omega, by omega⟩
    clear qa5 qb5
    by_cases h2 : p = 2
    · have h2' : (p == 2) = true := by simpa using h2
      obtain ⟨x, hx⟩ : ∃ x, a / p ^ vp p a % 8 = x := ⟨_, rfl⟩
      obtain ⟨y, hy⟩ : ∃ y, b / p ^ vp p b % 8 = y := ⟨_, rfl⟩
      have hx2 : 1 ≤ x ∧ x ≤ 7 := by rw [← hx, h2]; exact odd8 a2
      have hy2 : 1 ≤ y ∧ y ≤ 7 := by rw [← hy, h2]; exact odd8 b2
      obtain ⟨⟨e1, e2⟩, ⟨e3, e4⟩, ⟨e5, e6⟩, ⟨e7, e8⟩, ⟨e9, e10⟩⟩ := hil2_bd ⟨Int.natCast_nonneg _, ka⟩ ⟨Int.natCast_nonneg _, kb⟩ hx2 hy2
      have HX := Lib.hid hx; have HY := Lib.hid hy; have H2 := Lib.hid h2
      clear hx hy h2
      rcases Bool.eq_false_or_eq_true (((x - 1) / 2 * ((y - 1) / 2) + (vp p a : Int) * ((y * y - 1) / 8) + (vp p b : Int) * ((x * x - 1) / 8)) % 2 == 1) with ho | ho
      · have HO := Lib.hid ho
        go_enter Try.func73, Try.ntmps73
        go_wp2_with (first | (go_at_call 67; ((with_reducible refine (l16Parts_any _ _ _ a2 (by omega) (by omega) hp.1 (by omega)).mono ?_); rintro e w' ⟨rfl, rfl⟩)) | (go_at_call 67; ((with_reducible refine (l16Parts_any _ _ _ b2 (by omega) (by omega) hp.1 (by omega)).mono ?_); rintro e w' ⟨rfl, rfl⟩)) | (go_at_call 69; ((with_reducible refine (calls_int (l01Mod_any _ _ _ (by omega) (by omega)) HX.out).mono ?_); rintro e w' ⟨rfl, rfl⟩)) | (go_at_call 69; ((with_reducible refine (calls_int (l01Mod_any _ _ _ (by omega) (by omega)) HY.out).mono ?_); rintro e w' ⟨rfl, rfl⟩)) | (refine wp_region_wext (by kernel_rfl) (by kernel_rfl) ?_; (repeat (go_big_quiet_step (first | (go_at_call 67; with_reducible refine calls_wext_same (l16Parts_any _ _ _ a2 (by omega) (by omega) hp.1 (by omega))) | (go_at_call 67; with_reducible refine calls_wext_same (l16Parts_any _ _ _ b2 (by omega) (by omega) hp.1 (by omega))) | (go_at_call 69; with_reducible refine calls_wext_same (calls_int (l01Mod_any _ _ _ (by omega) (by omega)) HX.out)) | (go_at_call 69; with_reducible refine calls_wext_same (calls_int (l01Mod_any _ _ _ (by omega) (by omega)) HY.out))))); refine wpQuiet_nil ?_; intro w1_hbq hbq; replace hbq := below_of_wext hbq; obtain ⟨chbq, fhbq, shbq⟩ := bfacts2 hbq; (try simp at shbq)))
        go_ret
        exact ⟨ret_int (by unfold hilV; rw [if_neg hp0.out, if_pos H2.out]; unfold hil2; rw [HX.out, HY.out, signV_odd HO.out]), (by repeat (first | assumption | exact Below.refl _ _ | exact below_box _ | refine Below.drew ?_ | refine Below.setCell ?_ (by first | (simp; done) | (simp; omega)) _ | (refine below_step (by assumption) (by first | omega | (simp; done) | (simp; omega)) ?_) | (refine Below.alloc ?_ (by first | omega | (simp; done) | (simp; omega)) _)))⟩
      · have HO := Lib.hid ho
        go_enter Try.func73, Try.ntmps73
        go_wp2_with (first | (go_at_call 67; ((with_reducible refine (l16Parts_any _ _ _ a2 (by omega) (by omega) hp.1 (by omega)).mono ?_); rintro e w' ⟨rfl, rfl⟩)) | (go_at_call 67; ((with_reducible refine (l16Parts_any _ _ _ b2 (by omega) (by omega) hp.1 (by omega)).mono ?_); rintro e w' ⟨rfl, rfl⟩)) | (go_at_call 69; ((with_reducible refine (calls_int (l01Mod_any _ _ _ (by omega) (by omega)) HX.out).mono ?_); rintro e w' ⟨rfl, rfl⟩)) | (go_at_call 69; ((with_reducible refine (calls_int (l01Mod_any _ _ _ (by omega) (by omega)) HY.out).mono ?_); rintro e w' ⟨rfl, rfl⟩)) | (refine wp_region_wext (by kernel_rfl) (by kernel_rfl) ?_; (repeat (go_big_quiet_step (first | (go_at_call 67; with_reducible refine calls_wext_same (l16Parts_any _ _ _ a2 (by omega) (by omega) hp.1 (by omega))) | (go_at_call 67; with_reducible refine calls_wext_same (l16Parts_any _ _ _ b2 (by omega) (by omega) hp.1 (by omega))) | (go_at_call 69; with_reducible refine calls_wext_same (calls_int (l01Mod_any _ _ _ (by omega) (by omega)) HX.out)) | (go_at_call 69; with_reducible refine calls_wext_same (calls_int (l01Mod_any _ _ _ (by omega) (by omega)) HY.out))))); refine wpQuiet_nil ?_; intro w1_hbq hbq; replace hbq := below_of_wext hbq; obtain ⟨chbq, fhbq, shbq⟩ := bfacts2 hbq; (try simp at shbq)))
        go_ret
        exact ⟨ret_int (by unfold hilV; rw [if_neg hp0.out, if_pos H2.out]; unfold hil2; rw [HX.out, HY.out, signV_even HO.out]), (by repeat (first | assumption | exact Below.refl _ _ | exact below_box _ | refine Below.drew ?_ | refine Below.setCell ?_ (by first | (simp; done) | (simp; omega)) _ | (refine below_step (by assumption) (by first | omega | (simp; done) | (simp; omega)) ?_) | (refine Below.alloc ?_ (by first | omega | (simp; done) | (simp; omega)) _)))⟩
    · have h2' : (p == 2) = false := by simpa using h2
      obtain ⟨x, hx⟩ : ∃ x, legV p (a / p ^ vp p a) = x := ⟨_, rfl⟩
      obtain ⟨y, hy⟩ : ∃ y, legV p (b / p ^ vp p b) = y := ⟨_, rfl⟩
      obtain ⟨⟨e1, e2⟩, ⟨e3, e4⟩⟩ := hilP_bd ⟨Int.natCast_nonneg (vp p a), ka⟩ ⟨Int.natCast_nonneg (vp p b), kb⟩ (show 0 ≤ (p - 1) / 2 ∧ (p - 1) / 2 ≤ 48 by omega)
      have hx2 : -1 ≤ x ∧ x ≤ 1 := by rw [← hx]; rcases legV_cases p (a / p ^ vp p a) with h | h | h <;> rw [h] <;> omega
      have hy2 : -1 ≤ y ∧ y ≤ 1 := by rw [← hy]; rcases legV_cases p (b / p ^ vp p b) with h | h | h <;> rw [h] <;> omega
      have m1 := one_mul_bd hx2 hy2
      have m2 := one_mul_bd (show -1 ≤ -x ∧ -x ≤ 1 by omega) hy2
      have HX := Lib.hid hx; have HY := Lib.hid hy; have H2 := Lib.hid h2
      clear hx hy h2
      have hs : signV ((vp p a : Int) * (vp p b : Int) * ((p - 1) / 2)) = if (((vp p a : Int) * (vp p b : Int) * ((p - 1) / 2)) % 2 == 1) = true then -1 else 1 := by
        split
        · exact signV_odd ‹_›
        · exact signV_even (Bool.eq_false_iff.2 ‹_›)
      have HS := Lib.hid hs; clear hs
      rcases Bool.eq_false_or_eq_true (((vp p a : Int) * (vp p b : Int) * ((p - 1) / 2)) % 2 == 1) with ho | ho
      all_goals rcases Bool.eq_false_or_eq_true ((vp p a : Int) % 2 == 1) with hk | hk
      all_goals rcases Bool.eq_false_or_eq_true ((vp p b : Int) % 2 == 1) with hm | hm
      all_goals
        go_enter Try.func73, Try.ntmps73
        go_wp2_with (first | (go_at_call 67; ((with_reducible refine (l16Parts_any _ _ _ a2 (by omega) (by omega) hp.1 (by omega)).mono ?_); rintro e w' ⟨rfl, rfl⟩)) | (go_at_call 67; ((with_reducible refine (l16Parts_any _ _ _ b2 (by omega) (by omega) hp.1 (by omega)).mono ?_); rintro e w' ⟨rfl, rfl⟩)) | (go_at_call 101; ((with_reducible refine (calls_int (l02Legendre_any _ _ _ hp) HX.out).mono ?_); rintro e w' ⟨rfl, rfl⟩)) | (go_at_call 101; ((with_reducible refine (calls_int (l02Legendre_any _ _ _ hp) HY.out).mono ?_); rintro e w' ⟨rfl, rfl⟩)) | (refine wp_region_wext (by kernel_rfl) (by kernel_rfl) ?_; (repeat (go_big_quiet_step (first | (go_at_call 67; with_reducible refine calls_wext_same (l16Parts_any _ _ _ a2 (by omega) (by omega) hp.1 (by omega))) | (go_at_call 67; with_reducible refine calls_wext_same (l16Parts_any _ _ _ b2 (by omega) (by omega) hp.1 (by omega))) | (go_at_call 101; with_reducible refine calls_wext_same (calls_int (l02Legendre_any _ _ _ hp) HX.out)) | (go_at_call 101; with_reducible refine calls_wext_same (calls_int (l02Legendre_any _ _ _ hp) HY.out))))); refine wpQuiet_nil ?_; intro w1_hbq hbq; replace hbq := below_of_wext hbq; obtain ⟨chbq, fhbq, shbq⟩ := bfacts2 hbq; (try simp at shbq)))
        go_ret
        exact ⟨ret_int (by
          have hk' := hk; have hm' := hm
          simp only [beq_iff_eq, beq_eq_false_iff_ne, ne_eq] at hk' hm'
          unfold hilV; rw [if_neg hp0.out, if_neg H2.out]; unfold hilP; rw [HS.out, ho, HX.out, HY.out]; simp [hk', hm']), (by repeat (first | assumption | exact Below.refl _ _ | exact below_box _ | refine Below.drew ?_ | refine Below.setCell ?_ (by first | (simp; done) | (simp; omega)) _ | (refine below_step (by assumption) (by first | omega | (simp; done) | (simp; omega)) ?_) | (refine Below.alloc ?_ (by first | omega | (simp; done) | (simp; omega)) _)))⟩

end Go.Proofs.Ytjampkjgapkklaa
