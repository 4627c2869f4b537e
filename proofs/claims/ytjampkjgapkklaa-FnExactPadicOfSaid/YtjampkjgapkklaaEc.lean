/- Contracts: the p-adic number of a rational one. -/
import Derived.Test.YtjampkjgapkklaaEb
namespace Go.Proofs.Ytjampkjgapkklaa
open Go.RowKit
set_option linter.unusedVariables false
set_option linter.unusedSimpArgs false

/-- Unit parts, valuation and unit of a rational number. -/
def uqo (p a : Int) : Int := a / p ^ vp p a
def pofV (p a b : Int) : Int := (vp p a : Int) - vp p b
def pofU (p n a b : Int) : Int := uqo p a % p ^ n.toNat * invV (p ^ n.toNat) (uqo p b % p ^ n.toNat) % p ^ n.toNat
theorem vq_facts {p n : Int} (hp : 2 ≤ p) (hn : n ≠ 0) (h : -1000000000000 ≤ n ∧ n ≤ 1000000000000) :
    (1 ≤ p ^ vp p n ∧ p ^ vp p n ≤ 1000000000000) ∧ (-1000000000000 ≤ n / p ^ vp p n ∧ n / p ^ vp p n ≤ 1000000000000) ∧ n.tdiv (p ^ vp p n) = n / p ^ vp p n ∧ (vp p n : Int) ≤ 1000000000000 := by
  have h1 := vp_pow_le hp hn
  have h2 := quo_le (n := n) h1.1
  have h3 := vp_le hp hn
  exact ⟨⟨h1.1, by omega⟩, ⟨by omega, by omega⟩, (vp_spec hp hn).2.2, by omega⟩
theorem vInv_quo {p n N : Int} {k : Nat} (hp : 2 ≤ p) (h : VInv p n N k) (hd : N % p ≠ 0) : vp p n = k ∧ uqo p n = N := by
  have h4 := pow_pos' (show 1 ≤ p by omega) k
  have h5 := vInv_end hp h hd
  refine ⟨h5, ?_⟩
  rw [uqo, h5]
  conv => lhs; rw [h.1]
  exact Int.mul_ediv_cancel _ (by omega)
theorem mod_prod {m x i : Int} (hm : 1 ≤ m ∧ m ≤ 1000000000) : 0 ≤ x % m * (i % m) ∧ x % m * (i % m) ≤ 1000000000000000000 := by
  have h1 := Int.emod_nonneg x (show m ≠ 0 by omega)
  have h2 := Int.emod_lt_of_pos x (show 0 < m by omega)
  have h3 := Int.emod_nonneg i (show m ≠ 0 by omega)
  have h4 := Int.emod_lt_of_pos i (show 0 < m by omega)
  have := Int.mul_nonneg h1 h3
  have := Int.mul_le_mul (show x % m ≤ 1000000000 by omega) (show i % m ≤ 1000000000 by omega) h3 (by omega)
  omega
theorem tdiv_pos {a b : Int} (ha : 0 ≤ a) : a.tdiv b = a / b := Int.tdiv_eq_ediv_of_nonneg ha

set_option maxHeartbeats 4000000 in
theorem padicOf_any (a b p n : Int) (w : World) (hr : ringB p n = true) (hq : ratB a b = true) (ha0 : a ≠ 0) :
    Calls Try.prog 93 #[.agg #[.int .i64 a, .int .i64 b], .agg #[.int .i64 p, .int .i64 n]] w fun e w' => e = .returned (.agg #[.int .i64 p, .int .i64 (pofV p a b), .int .i64 (pofU p n a b), .int .i64 n]) ∧ Below w.heap.size w w' := by
  obtain ⟨⟨a1, a2⟩, b1, b2⟩ := rat_bd hq
  obtain ⟨⟨p1, p2⟩, r2, r3⟩ := ring_bd hr
  have HR := Lib.hid hr
  have hb0 : b ≠ 0 := by omega
  obtain ⟨⟨q1, q2⟩, ⟨q3, q4⟩, q5, q6⟩ := vq_facts p1 ha0 ⟨a1, a2⟩
  obtain ⟨⟨s1, s2⟩, ⟨s3, s4⟩, s5, s6⟩ := vq_facts p1 hb0 ⟨by omega, b2⟩
  have t5 : b / p ^ vp p b = uqo p b := rfl
  have HA := Lib.hid (show a.tdiv (p ^ vp p a) % p ^ n.toNat = uqo p a % p ^ n.toNat by rw [q5]; rfl)
  have HB := Lib.hid (show b / p ^ vp p b % p ^ n.toNat = uqo p b % p ^ n.toNat from rfl)
  obtain ⟨u1, u2⟩ := mod_prod (m := p ^ n.toNat) (x := uqo p a) (i := bezX (uqo p b % p ^ n.toNat) (p ^ n.toNat)) ⟨by omega, by omega⟩
  have u3 := Int.emod_nonneg (uqo p b) (show p ^ n.toNat ≠ 0 by omega)
  have u4 := Int.emod_lt_of_pos (uqo p b) (show 0 < p ^ n.toNat by omega)
  have u5 : -1000000000000 ≤ a.tdiv (p ^ vp p a) ∧ a.tdiv (p ^ vp p a) ≤ 1000000000000 := by rw [q5]; exact ⟨q3, q4⟩
  rw [← invV] at u1 u2
  have hPA : ¬ p ^ vp p a = 0 := by omega
  have hPB : ¬ p ^ vp p b = 0 := by omega
  have AL := alloc_ite
  clear hr hq q5 s5 t5 hb0
  go_enter Try.func93, Try.ntmps93
  go_wp2_with (first | (go_at_call 98; ((with_reducible refine (valuation_any a p _ ha0 (by omega) (by omega) p1 (by omega)).mono ?_); rintro e w' ⟨rfl, rfl⟩)) | (go_at_call 98; ((with_reducible refine (valuation_any b p _ (by omega) (by omega) (by omega) p1 (by omega)).mono ?_); rintro e w' ⟨rfl, rfl⟩)) | (go_at_call 117; ((with_reducible refine (modulus_any _ _ _ HR.out).mono ?_); rintro e w1_hb2 ⟨rfl, hb2⟩; obtain ⟨chb2, fhb2, shb2⟩ := bfacts2 hb2; (try simp at shb2))) | (go_at_call 58; ((with_reducible refine (power_any p (vp p a : Int) _ (by omega) (by rw [Int.toNat_natCast]; omega) (by rw [Int.toNat_natCast]; omega)).mono ?_); rintro e w' ⟨rfl, rfl⟩)) | (go_at_call 58; ((with_reducible refine (power_any p (vp p b : Int) _ (by omega) (by rw [Int.toNat_natCast]; omega) (by rw [Int.toNat_natCast]; omega)).mono ?_); rintro e w' ⟨rfl, rfl⟩)) | (go_at_call 103; ((with_reducible refine (calls_int (mod_any (a.tdiv (p ^ vp p a)) _ _ (by omega) (by omega)) HA.out).mono ?_); rintro e w' ⟨rfl, rfl⟩)) | (go_at_call 103; ((with_reducible refine (calls_int (mod_any (b / p ^ vp p b) _ _ (by omega) (by omega)) HB.out).mono ?_); rintro e w' ⟨rfl, rfl⟩)) | (go_at_call 118; ((with_reducible refine (inverse_any _ _ _ _ HR.out ⟨by omega, by omega⟩).mono ?_); rintro e w1_hb7 ⟨rfl, hb7⟩; obtain ⟨chb7, fhb7, shb7⟩ := bfacts2 hb7; (try simp at shb7))) | (refine wp_region_wext (by kernel_rfl) (by kernel_rfl) ?_; (repeat (go_big_quiet_step (first | (go_at_call 98; with_reducible refine calls_wext_same (valuation_any a p _ ha0 (by omega) (by omega) p1 (by omega))) | (go_at_call 98; with_reducible refine calls_wext_same (valuation_any b p _ (by omega) (by omega) (by omega) p1 (by omega))) | (go_at_call 117; with_reducible refine calls_wext (modulus_any _ _ _ HR.out)) | (go_at_call 58; with_reducible refine calls_wext_same (power_any p (vp p a : Int) _ (by omega) (by rw [Int.toNat_natCast]; omega) (by rw [Int.toNat_natCast]; omega))) | (go_at_call 58; with_reducible refine calls_wext_same (power_any p (vp p b : Int) _ (by omega) (by rw [Int.toNat_natCast]; omega) (by rw [Int.toNat_natCast]; omega))) | (go_at_call 103; with_reducible refine calls_wext_same (calls_int (mod_any (a.tdiv (p ^ vp p a)) _ _ (by omega) (by omega)) HA.out)) | (go_at_call 103; with_reducible refine calls_wext_same (calls_int (mod_any (b / p ^ vp p b) _ _ (by omega) (by omega)) HB.out)) | (go_at_call 118; with_reducible refine calls_wext (inverse_any _ _ _ _ HR.out ⟨by omega, by omega⟩))))); refine wpQuiet_nil ?_; intro w1_hbq hbq; replace hbq := below_of_wext hbq; obtain ⟨chbq, fhbq, shbq⟩ := bfacts2 hbq; (try simp at shbq)))
  go_wp2_with (first | (go_at_call 98; ((with_reducible refine (valuation_any a p _ ha0 (by omega) (by omega) p1 (by omega)).mono ?_); rintro e w' ⟨rfl, rfl⟩)) | (go_at_call 98; ((with_reducible refine (valuation_any b p _ (by omega) (by omega) (by omega) p1 (by omega)).mono ?_); rintro e w' ⟨rfl, rfl⟩)) | (go_at_call 117; ((with_reducible refine (modulus_any _ _ _ HR.out).mono ?_); rintro e w1_hb2 ⟨rfl, hb2⟩; obtain ⟨chb2, fhb2, shb2⟩ := bfacts2 hb2; (try simp at shb2))) | (go_at_call 58; ((with_reducible refine (power_any p (vp p a : Int) _ (by omega) (by rw [Int.toNat_natCast]; omega) (by rw [Int.toNat_natCast]; omega)).mono ?_); rintro e w' ⟨rfl, rfl⟩)) | (go_at_call 58; ((with_reducible refine (power_any p (vp p b : Int) _ (by omega) (by rw [Int.toNat_natCast]; omega) (by rw [Int.toNat_natCast]; omega)).mono ?_); rintro e w' ⟨rfl, rfl⟩)) | (go_at_call 103; ((with_reducible refine (calls_int (mod_any (a.tdiv (p ^ vp p a)) _ _ (by omega) (by omega)) HA.out).mono ?_); rintro e w' ⟨rfl, rfl⟩)) | (go_at_call 103; ((with_reducible refine (calls_int (mod_any (b / p ^ vp p b) _ _ (by omega) (by omega)) HB.out).mono ?_); rintro e w' ⟨rfl, rfl⟩)) | (go_at_call 118; ((with_reducible refine (inverse_any _ _ _ _ HR.out ⟨by omega, by omega⟩).mono ?_); rintro e w1_hb7 ⟨rfl, hb7⟩; obtain ⟨chb7, fhb7, shb7⟩ := bfacts2 hb7; (try simp at shb7))) | (refine wp_region_wext_tail 15 (by kernel_rfl) (by kernel_rfl) ?_; simp only [List.take_succ_cons, List.take_zero, List.drop_succ_cons, List.drop_zero]; (repeat (go_big_quiet_step (first | (go_at_call 98; with_reducible refine calls_wext_same (valuation_any a p _ ha0 (by omega) (by omega) p1 (by omega))) | (go_at_call 98; with_reducible refine calls_wext_same (valuation_any b p _ (by omega) (by omega) (by omega) p1 (by omega))) | (go_at_call 117; with_reducible refine calls_wext (modulus_any _ _ _ HR.out)) | (go_at_call 58; with_reducible refine calls_wext_same (power_any p (vp p a : Int) _ (by omega) (by rw [Int.toNat_natCast]; omega) (by rw [Int.toNat_natCast]; omega))) | (go_at_call 58; with_reducible refine calls_wext_same (power_any p (vp p b : Int) _ (by omega) (by rw [Int.toNat_natCast]; omega) (by rw [Int.toNat_natCast]; omega))) | (go_at_call 103; with_reducible refine calls_wext_same (calls_int (mod_any (a.tdiv (p ^ vp p a)) _ _ (by omega) (by omega)) HA.out)) | (go_at_call 103; with_reducible refine calls_wext_same (calls_int (mod_any (b / p ^ vp p b) _ _ (by omega) (by omega)) HB.out)) | (go_at_call 118; with_reducible refine calls_wext (inverse_any _ _ _ _ HR.out ⟨by omega, by omega⟩))))); refine wpQuiet_nil ?_; intro w1_hbq hbq; replace hbq := below_of_wext hbq; obtain ⟨chbq, fhbq, shbq⟩ := bfacts2 hbq; (try simp at shbq)) | (refine wp_region_wext (by kernel_rfl) (by kernel_rfl) ?_; (repeat (go_big_quiet_step (first | (go_at_call 98; with_reducible refine calls_wext_same (valuation_any a p _ ha0 (by omega) (by omega) p1 (by omega))) | (go_at_call 98; with_reducible refine calls_wext_same (valuation_any b p _ (by omega) (by omega) (by omega) p1 (by omega))) | (go_at_call 117; with_reducible refine calls_wext (modulus_any _ _ _ HR.out)) | (go_at_call 58; with_reducible refine calls_wext_same (power_any p (vp p a : Int) _ (by omega) (by rw [Int.toNat_natCast]; omega) (by rw [Int.toNat_natCast]; omega))) | (go_at_call 58; with_reducible refine calls_wext_same (power_any p (vp p b : Int) _ (by omega) (by rw [Int.toNat_natCast]; omega) (by rw [Int.toNat_natCast]; omega))) | (go_at_call 103; with_reducible refine calls_wext_same (calls_int (mod_any (a.tdiv (p ^ vp p a)) _ _ (by omega) (by omega)) HA.out)) | (go_at_call 103; with_reducible refine calls_wext_same (calls_int (mod_any (b / p ^ vp p b) _ _ (by omega) (by omega)) HB.out)) | (go_at_call 118; with_reducible refine calls_wext (inverse_any _ _ _ _ HR.out ⟨by omega, by omega⟩))))); refine wpQuiet_nil ?_; intro w1_hbq hbq; replace hbq := below_of_wext hbq; obtain ⟨chbq, fhbq, shbq⟩ := bfacts2 hbq; (try simp at shbq)))
  refine bodyPost_ret (v := .agg #[.int .i64 p, .int .i64 ((vp p a : Int) - vp p b), .int .i64 (uqo p a % p ^ n.toNat * invV (p ^ n.toNat) (uqo p b % p ^ n.toNat) % p ^ n.toNat), .int .i64 n]) (by simp [results, Try.results93, go_sem, ↓IntWalk.iteOmega, *]) rfl ?_
  exact ⟨rfl, (by repeat (first | assumption | exact Below.refl _ _ | exact below_box _ | refine Below.drew ?_ | refine Below.setCell ?_ (by first | (simp; done) | (simp; omega)) _ | (refine below_step (by assumption) (by first | omega | (simp; done) | (simp; omega)) ?_) | (refine Below.alloc ?_ (by first | omega | (simp; done) | (simp; omega)) _)))⟩

theorem vInv_pos' {Q N M : Int} {k : Nat} (hQ : 2 ≤ Q) (hN : 1 ≤ N) (h : VInv Q N M k) : 1 ≤ M := by
  have h4 := pow_pos' (show 1 ≤ Q by omega) k
  apply Decidable.byContradiction
  intro hM
  have := Int.mul_le_mul_of_nonneg_right (show M ≤ 0 by omega) (show 0 ≤ Q ^ k by omega)
  have := h.1
  omega
set_option maxHeartbeats 4000000 in
theorem l05Padic_any (a b p n : Int) (w : World) (hr : ringB p n = true) (hq : ratB a b = true) (ha0 : a ≠ 0) :
    Calls Try.prog 90 #[.agg #[.int .i64 a, .int .i64 b], .agg #[.int .i64 p, .int .i64 n]] w fun e w' => e = .returned (.agg #[.int .i64 p, .int .i64 (pofV p a b), .int .i64 (pofU p n a b), .int .i64 n]) ∧ Below w.heap.size w w' := by
  obtain ⟨⟨a1, a2⟩, b1, b2⟩ := rat_bd hq
  obtain ⟨⟨p1, p2⟩, r2, r3⟩ := ring_bd hr
  have HR := Lib.hid hr
  have hb0 : b ≠ 0 := by omega
  have AL := alloc_ite
  clear hr hq
  go_enter Try.func90, Try.ntmps90
  go_wp2_with (first | (refine wp_region_wext (by kernel_rfl) (by kernel_rfl) ?_; (repeat (go_big_quiet_step (first | fail))); refine wpQuiet_nil ?_; intro w1_hbq hbq; replace hbq := below_of_wext hbq; obtain ⟨chbq, fhbq, shbq⟩ := bfacts2 hbq; (try simp at shbq)))
  go_loop [5, 7] (fun x c => ∃ (N : Int) (k : Nat), x = .int .i64 N ∧ c = .int .i64 k ∧ Hid (VInv p a N k)) (fun x _ => (intOf x).natAbs)
  case atStart => exact ⟨a, 0, rfl, rfl, Lib.hid (vInv_start ha0)⟩
  case round =>
    obtain ⟨N, k, rfl, rfl, HI⟩ := hrel
    have hk : (k : Int) + N.natAbs ≤ a.natAbs := by have := HI.out.2.2; omega
    have hN0 : 1 ≤ N.natAbs := by have := HI.out.2.1; omega
    obtain ⟨k1, k2, k3⟩ : (k : Int) ≤ 1000000000000 ∧ -1000000000000 ≤ N ∧ N ≤ 1000000000000 := by omega
    by_cases hd : N % p = 0
    · obtain ⟨s1, s2, s3⟩ := vInv_step p1 HI.out hd
      have hd' : (N.tmod p == 0) = true := by simpa using (tmod_zero N p).2 hd
      obtain ⟨k4, k5⟩ : -1000000000000 ≤ N.tdiv p ∧ N.tdiv p ≤ 1000000000000 := by rw [s3]; omega
      have S3 := Lib.hid s3
      have S1 := Lib.hid s1
      have S2 := Lib.hid s2
      clear s3 hd s1 s2
      go_wp2
      go_round
      case rel => exact ⟨N / p, k + 1, vint S3.out, by go_num, S1⟩
      case measure => have := S2.out; simp [intOf, S3.out]; omega
    · have hd' : (N.tmod p == 0) = false := by simpa using fun h => hd ((tmod_zero N p).1 h)
      obtain ⟨e1, e2⟩ := vInv_quo p1 HI.out hd
      have E1 := Lib.hid e1
      have E2 := Lib.hid e2
      clear hd e1 e2
      go_wp2
      go_loop [6, 7] (fun x c => ∃ (M : Int) (j : Nat), x = .int .i64 M ∧ c = .int .i64 ((k : Int) - j) ∧ Hid (VInv p b M j) ∧ 1 ≤ M) (fun x _ => (intOf x).natAbs)
      case atStart => exact ⟨b, 0, rfl, vint (by simp), Lib.hid (vInv_start hb0), b1⟩
      case round =>
        clear HI hN0
        obtain ⟨M, j, rfl, rfl, HI, hM⟩ := hrel
        have hk' : (j : Int) + M.natAbs ≤ b.natAbs := by have := HI.out.2.2; omega
        obtain ⟨j1, j3⟩ : (j : Int) ≤ 1000000000000 ∧ M ≤ 1000000000000 := by omega
        by_cases hd2 : M % p = 0
        · obtain ⟨s1, s2, s3⟩ := vInv_step p1 HI.out hd2
          have hd2' : (M % p == 0) = true := by simpa using hd2
          have hM2 : 1 ≤ M / p := vInv_pos' p1 b1 s1
          have hM3 : M / p ≤ M := Int.ediv_le_self _ (by omega)
          have S1 := Lib.hid s1
          have S2 := Lib.hid s2
          clear s3 hd2 s1 s2
          go_wp2
          go_round
          case rel => exact ⟨M / p, j + 1, rfl, vint (by omega), S1, hM2⟩
          case measure => have := S2.out; simp [intOf]; omega
        · have hd2' : (M % p == 0) = false := by simpa using hd2
          obtain ⟨e1, e2⟩ := vInv_quo p1 HI.out hd2
          have E3 := Lib.hid (show (k : Int) - j = pofV p a b by rw [pofV, E1.out, e1])
          have E4 := Lib.hid e2
          clear hd2 e1 e2
          have HM := Lib.hid (show M % p ^ n.toNat = uqo p b % p ^ n.toNat by rw [E4.out])
          have HN := Lib.hid (show N % p ^ n.toNat = uqo p a % p ^ n.toNat by rw [E2.out])
          obtain ⟨u1, u2⟩ := mod_prod (m := p ^ n.toNat) (x := uqo p a) (i := bezX (uqo p b % p ^ n.toNat) (p ^ n.toNat)) ⟨by omega, by omega⟩
          have u3 := Int.emod_nonneg (uqo p b) (show p ^ n.toNat ≠ 0 by omega)
          have u4 := Int.emod_lt_of_pos (uqo p b) (show 0 < p ^ n.toNat by omega)
          rw [← invV] at u1 u2
          go_wp2_with (first | (go_at_call 106; ((with_reducible refine (l02Modulus_ring _ _ _ HR.out).mono ?_); rintro e w' ⟨rfl, rfl⟩)) | (go_at_call 69; ((with_reducible refine (calls_int (l01Mod_any N _ _ (by omega) (by omega)) HN.out).mono ?_); rintro e w' ⟨rfl, rfl⟩)) | (go_at_call 69; ((with_reducible refine (calls_int (l01Mod_any M _ _ (by omega) (by omega)) HM.out).mono ?_); rintro e w' ⟨rfl, rfl⟩)) | (go_at_call 115; ((with_reducible refine (l02Inverse_any _ _ _ ⟨by omega, by omega⟩ ⟨by omega, by omega⟩).mono ?_); rintro e w' ⟨rfl, rfl⟩)) | (refine wp_region_wext_tail 17 (by kernel_rfl) (by kernel_rfl) ?_; simp only [List.take_succ_cons, List.take_zero, List.drop_succ_cons, List.drop_zero]; (repeat (go_big_quiet_step (first | (go_at_call 106; with_reducible refine calls_wext_same (l02Modulus_ring _ _ _ HR.out)) | (go_at_call 69; with_reducible refine calls_wext_same (calls_int (l01Mod_any N _ _ (by omega) (by omega)) HN.out)) | (go_at_call 69; with_reducible refine calls_wext_same (calls_int (l01Mod_any M _ _ (by omega) (by omega)) HM.out)) | (go_at_call 115; with_reducible refine calls_wext_same (l02Inverse_any _ _ _ ⟨by omega, by omega⟩ ⟨by omega, by omega⟩))))); refine wpQuiet_nil ?_; intro w1_hbq hbq; replace hbq := below_of_wext hbq; obtain ⟨chbq, fhbq, shbq⟩ := bfacts2 hbq; (try simp at shbq)) | (refine wp_region_wext (by kernel_rfl) (by kernel_rfl) ?_; (repeat (go_big_quiet_step (first | (go_at_call 106; with_reducible refine calls_wext_same (l02Modulus_ring _ _ _ HR.out)) | (go_at_call 69; with_reducible refine calls_wext_same (calls_int (l01Mod_any N _ _ (by omega) (by omega)) HN.out)) | (go_at_call 69; with_reducible refine calls_wext_same (calls_int (l01Mod_any M _ _ (by omega) (by omega)) HM.out)) | (go_at_call 115; with_reducible refine calls_wext_same (l02Inverse_any _ _ _ ⟨by omega, by omega⟩ ⟨by omega, by omega⟩))))); refine wpQuiet_nil ?_; intro w1_hbq hbq; replace hbq := below_of_wext hbq; obtain ⟨chbq, fhbq, shbq⟩ := bfacts2 hbq; (try simp at shbq)))
          refine bodyPost_ret (v := .agg #[.int .i64 p, .int .i64 ((k : Int) - j), .int .i64 (uqo p a % p ^ n.toNat * invV (p ^ n.toNat) (uqo p b % p ^ n.toNat) % p ^ n.toNat), .int .i64 n]) (by simp [results, Try.results90, go_sem, ↓IntWalk.iteOmega, *]) rfl ?_
          exact ⟨by rw [E3.out]; rfl, (by repeat (first | assumption | exact Below.refl _ _ | exact below_box _ | refine Below.drew ?_ | refine Below.setCell ?_ (by first | (simp; done) | (simp; omega)) _ | (refine below_step (by assumption) (by first | omega | (simp; done) | (simp; omega)) ?_) | (refine Below.alloc ?_ (by first | omega | (simp; done) | (simp; omega)) _)))⟩

/-! ### PadicOf -/
def pofOk (p n a b : Int) : Bool := ratB a b && ringB p n && (a != 0)
def pofC (p n a b : Int) : Int := if ratB a b && ringB p n then if a = 0 then 5 else 0 else 1
def pof0 (p n a b : Int) : Int := if pofOk p n a b then p else 0
def pof1 (p n a b : Int) : Int := if pofOk p n a b then pofV p a b else 0
def pof2 (p n a b : Int) : Int := if pofOk p n a b then pofU p n a b else 0
def pof3 (p n a b : Int) : Int := if pofOk p n a b then n else 0

set_option maxHeartbeats 4000000 in
theorem PadicOf_any (a b p n : Int) (w : World) (hn : n ≤ 9223372036854775807) (hn' : -9223372036854775808 ≤ n) :
    Calls Try.prog 44 #[.agg #[.int .i64 a, .int .i64 b], .agg #[.int .i64 p, .int .i64 n]] w fun e w' => e = .returned (.tuple #[.agg #[.int .i64 (pof0 p n a b), .int .i64 (pof1 p n a b), .int .i64 (pof2 p n a b), .int .i64 (pof3 p n a b)], .int .i64 (pofC p n a b)]) ∧ Below w.heap.size w w' := by
  have AL := alloc_ite
  rcases Bool.eq_false_or_eq_true (ratB a b) with hq | hq
  · have HQ := Lib.hid hq; clear hq
    rcases Bool.eq_false_or_eq_true (ringB p n) with hr | hr
    · have HR := Lib.hid hr; clear hr
      by_cases h0 : a = 0
      · subst h0
        go_enter Try.func44, Try.ntmps44
        go_wp2_with (first | (go_at_call 91; ((with_reducible refine (calls_bool (IsRational_any _ _ _) HQ.out).mono ?_); rintro e w1_hb0 ⟨rfl, hb0⟩; obtain ⟨chb0, fhb0, shb0⟩ := bfacts2 hb0; (try simp at shb0))) | (go_at_call 92; ((with_reducible refine (calls_bool (IsRing_any _ _ _ hn hn') HR.out).mono ?_); rintro e w1_hb1 ⟨rfl, hb1⟩; obtain ⟨chb1, fhb1, shb1⟩ := bfacts2 hb1; (try simp at shb1))) | (refine wp_region_wext (by kernel_rfl) (by kernel_rfl) ?_; (repeat (go_big_quiet_step (first | (go_at_call 91; with_reducible refine calls_wext (calls_bool (IsRational_any _ _ _) HQ.out)) | (go_at_call 92; with_reducible refine calls_wext (calls_bool (IsRing_any _ _ _ hn hn') HR.out))))); refine wpQuiet_nil ?_; intro w1_hbq hbq; replace hbq := below_of_wext hbq; obtain ⟨chbq, fhbq, shbq⟩ := bfacts2 hbq; (try simp at shbq)))
        refine bodyPost_ret (v := .tuple #[.agg #[.int .i64 0, .int .i64 0, .int .i64 0, .int .i64 0], .int .i64 5]) (by simp [results, Try.results44, go_sem, ↓IntWalk.iteOmega, *]) rfl ?_
        exact ⟨by simp [pof0, pof1, pof2, pof3, pofOk, pofC, HQ.out, HR.out], (by repeat (first | assumption | exact Below.refl _ _ | exact below_box _ | refine Below.drew ?_ | refine Below.setCell ?_ (by first | (simp; done) | (simp; omega)) _ | (refine below_step (by assumption) (by first | omega | (simp; done) | (simp; omega)) ?_) | (refine Below.alloc ?_ (by first | omega | (simp; done) | (simp; omega)) _)))⟩
      · have hb : (a == 0) = false := by simpa using h0
        have H0 := Lib.hid h0
        clear h0
        go_enter Try.func44, Try.ntmps44
        go_wp2_with (first | (go_at_call 91; ((with_reducible refine (calls_bool (IsRational_any _ _ _) HQ.out).mono ?_); rintro e w1_hb0 ⟨rfl, hb0⟩; obtain ⟨chb0, fhb0, shb0⟩ := bfacts2 hb0; (try simp at shb0))) | (go_at_call 92; ((with_reducible refine (calls_bool (IsRing_any _ _ _ hn hn') HR.out).mono ?_); rintro e w1_hb1 ⟨rfl, hb1⟩; obtain ⟨chb1, fhb1, shb1⟩ := bfacts2 hb1; (try simp at shb1))) | (go_at_call 93; ((with_reducible refine (padicOf_any _ _ _ _ _ HR.out HQ.out H0.out).mono ?_); rintro e w1_hb2 ⟨rfl, hb2⟩; obtain ⟨chb2, fhb2, shb2⟩ := bfacts2 hb2; (try simp at shb2))) | (refine wp_region_wext (by kernel_rfl) (by kernel_rfl) ?_; (repeat (go_big_quiet_step (first | (go_at_call 91; with_reducible refine calls_wext (calls_bool (IsRational_any _ _ _) HQ.out)) | (go_at_call 92; with_reducible refine calls_wext (calls_bool (IsRing_any _ _ _ hn hn') HR.out)) | (go_at_call 93; with_reducible refine calls_wext (padicOf_any _ _ _ _ _ HR.out HQ.out H0.out))))); refine wpQuiet_nil ?_; intro w1_hbq hbq; replace hbq := below_of_wext hbq; obtain ⟨chbq, fhbq, shbq⟩ := bfacts2 hbq; (try simp at shbq)))
        refine bodyPost_ret (v := .tuple #[.agg #[.int .i64 p, .int .i64 (pofV p a b), .int .i64 (pofU p n a b), .int .i64 n], .int .i64 0]) (by simp [results, Try.results44, go_sem, ↓IntWalk.iteOmega, *]) rfl ?_
        exact ⟨by simp [pof0, pof1, pof2, pof3, pofOk, pofC, HQ.out, HR.out, H0.out], (by repeat (first | assumption | exact Below.refl _ _ | exact below_box _ | refine Below.drew ?_ | refine Below.setCell ?_ (by first | (simp; done) | (simp; omega)) _ | (refine below_step (by assumption) (by first | omega | (simp; done) | (simp; omega)) ?_) | (refine Below.alloc ?_ (by first | omega | (simp; done) | (simp; omega)) _)))⟩
    · have HR := Lib.hid hr; clear hr
      go_enter Try.func44, Try.ntmps44
      go_wp2_with (first | (go_at_call 91; ((with_reducible refine (calls_bool (IsRational_any _ _ _) HQ.out).mono ?_); rintro e w1_hb0 ⟨rfl, hb0⟩; obtain ⟨chb0, fhb0, shb0⟩ := bfacts2 hb0; (try simp at shb0))) | (go_at_call 92; ((with_reducible refine (calls_bool (IsRing_any _ _ _ hn hn') HR.out).mono ?_); rintro e w1_hb1 ⟨rfl, hb1⟩; obtain ⟨chb1, fhb1, shb1⟩ := bfacts2 hb1; (try simp at shb1))) | (refine wp_region_wext (by kernel_rfl) (by kernel_rfl) ?_; (repeat (go_big_quiet_step (first | (go_at_call 91; with_reducible refine calls_wext (calls_bool (IsRational_any _ _ _) HQ.out)) | (go_at_call 92; with_reducible refine calls_wext (calls_bool (IsRing_any _ _ _ hn hn') HR.out))))); refine wpQuiet_nil ?_; intro w1_hbq hbq; replace hbq := below_of_wext hbq; obtain ⟨chbq, fhbq, shbq⟩ := bfacts2 hbq; (try simp at shbq)))
      refine bodyPost_ret (v := .tuple #[.agg #[.int .i64 0, .int .i64 0, .int .i64 0, .int .i64 0], .int .i64 1]) (by simp [results, Try.results44, go_sem, ↓IntWalk.iteOmega, *]) rfl ?_
      exact ⟨by simp [pof0, pof1, pof2, pof3, pofOk, pofC, HQ.out, HR.out], (by repeat (first | assumption | exact Below.refl _ _ | exact below_box _ | refine Below.drew ?_ | refine Below.setCell ?_ (by first | (simp; done) | (simp; omega)) _ | (refine below_step (by assumption) (by first | omega | (simp; done) | (simp; omega)) ?_) | (refine Below.alloc ?_ (by first | omega | (simp; done) | (simp; omega)) _)))⟩
  · have HQ := Lib.hid hq; clear hq
    go_enter Try.func44, Try.ntmps44
    go_wp2_with (first | (go_at_call 91; ((with_reducible refine (calls_bool (IsRational_any _ _ _) HQ.out).mono ?_); rintro e w1_hb0 ⟨rfl, hb0⟩; obtain ⟨chb0, fhb0, shb0⟩ := bfacts2 hb0; (try simp at shb0))) | (refine wp_region_wext (by kernel_rfl) (by kernel_rfl) ?_; (repeat (go_big_quiet_step (first | (go_at_call 91; with_reducible refine calls_wext (calls_bool (IsRational_any _ _ _) HQ.out))))); refine wpQuiet_nil ?_; intro w1_hbq hbq; replace hbq := below_of_wext hbq; obtain ⟨chbq, fhbq, shbq⟩ := bfacts2 hbq; (try simp at shbq)))
    refine bodyPost_ret (v := .tuple #[.agg #[.int .i64 0, .int .i64 0, .int .i64 0, .int .i64 0], .int .i64 1]) (by simp [results, Try.results44, go_sem, ↓IntWalk.iteOmega, *]) rfl ?_
    exact ⟨by simp [pof0, pof1, pof2, pof3, pofOk, pofC, HQ.out], (by repeat (first | assumption | exact Below.refl _ _ | exact below_box _ | refine Below.drew ?_ | refine Below.setCell ?_ (by first | (simp; done) | (simp; omega)) _ | (refine below_step (by assumption) (by first | omega | (simp; done) | (simp; omega)) ?_) | (refine Below.alloc ?_ (by first | omega | (simp; done) | (simp; omega)) _)))⟩

set_option maxHeartbeats 4000000 in
theorem sPadicOf_any (a b p n : Int) (w : World) (hn : n ≤ 9223372036854775807) (hn' : -9223372036854775808 ≤ n) :
    Calls Try.prog 41 #[.agg #[.int .i64 a, .int .i64 b], .agg #[.int .i64 p, .int .i64 n]] w fun e w' => e = .returned (.tuple #[.agg #[.int .i64 (pof0 p n a b), .int .i64 (pof1 p n a b), .int .i64 (pof2 p n a b), .int .i64 (pof3 p n a b)], .int .i64 (pofC p n a b)]) ∧ Below w.heap.size w w' := by
  have AL := alloc_ite
  rcases Bool.eq_false_or_eq_true (ratB a b) with hq | hq
  · have HQ := Lib.hid hq; clear hq
    rcases Bool.eq_false_or_eq_true (ringB p n) with hr | hr
    · have HR := Lib.hid hr; clear hr
      by_cases h0 : a = 0
      · subst h0
        go_enter Try.func41, Try.ntmps41
        go_wp2_with (first | (go_at_call 88; ((with_reducible refine (calls_bool (sIsRational_any _ _ _) HQ.out).mono ?_); rintro e w1_hb0 ⟨rfl, hb0⟩; obtain ⟨chb0, fhb0, shb0⟩ := bfacts2 hb0; (try simp at shb0))) | (go_at_call 89; ((with_reducible refine (calls_bool (specIsRing_any _ _ _ hn hn') HR.out).mono ?_); rintro e w1_hb1 ⟨rfl, hb1⟩; obtain ⟨chb1, fhb1, shb1⟩ := bfacts2 hb1; (try simp at shb1))) | (refine wp_region_wext (by kernel_rfl) (by kernel_rfl) ?_; (repeat (go_big_quiet_step (first | (go_at_call 88; with_reducible refine calls_wext (calls_bool (sIsRational_any _ _ _) HQ.out)) | (go_at_call 89; with_reducible refine calls_wext (calls_bool (specIsRing_any _ _ _ hn hn') HR.out))))); refine wpQuiet_nil ?_; intro w1_hbq hbq; replace hbq := below_of_wext hbq; obtain ⟨chbq, fhbq, shbq⟩ := bfacts2 hbq; (try simp at shbq)))
        refine bodyPost_ret (v := .tuple #[.agg #[.int .i64 0, .int .i64 0, .int .i64 0, .int .i64 0], .int .i64 5]) (by simp [results, Try.results41, go_sem, ↓IntWalk.iteOmega, *]) rfl ?_
        exact ⟨by simp [pof0, pof1, pof2, pof3, pofOk, pofC, HQ.out, HR.out], (by repeat (first | assumption | exact Below.refl _ _ | exact below_box _ | refine Below.drew ?_ | refine Below.setCell ?_ (by first | (simp; done) | (simp; omega)) _ | (refine below_step (by assumption) (by first | omega | (simp; done) | (simp; omega)) ?_) | (refine Below.alloc ?_ (by first | omega | (simp; done) | (simp; omega)) _)))⟩
      · have hb : (a == 0) = false := by simpa using h0
        have H0 := Lib.hid h0
        clear h0
        go_enter Try.func41, Try.ntmps41
        go_wp2_with (first | (go_at_call 88; ((with_reducible refine (calls_bool (sIsRational_any _ _ _) HQ.out).mono ?_); rintro e w1_hb0 ⟨rfl, hb0⟩; obtain ⟨chb0, fhb0, shb0⟩ := bfacts2 hb0; (try simp at shb0))) | (go_at_call 89; ((with_reducible refine (calls_bool (specIsRing_any _ _ _ hn hn') HR.out).mono ?_); rintro e w1_hb1 ⟨rfl, hb1⟩; obtain ⟨chb1, fhb1, shb1⟩ := bfacts2 hb1; (try simp at shb1))) | (go_at_call 90; ((with_reducible refine (l05Padic_any _ _ _ _ _ HR.out HQ.out H0.out).mono ?_); rintro e w1_hb2 ⟨rfl, hb2⟩; obtain ⟨chb2, fhb2, shb2⟩ := bfacts2 hb2; (try simp at shb2))) | (refine wp_region_wext (by kernel_rfl) (by kernel_rfl) ?_; (repeat (go_big_quiet_step (first | (go_at_call 88; with_reducible refine calls_wext (calls_bool (sIsRational_any _ _ _) HQ.out)) | (go_at_call 89; with_reducible refine calls_wext (calls_bool (specIsRing_any _ _ _ hn hn') HR.out)) | (go_at_call 90; with_reducible refine calls_wext (l05Padic_any _ _ _ _ _ HR.out HQ.out H0.out))))); refine wpQuiet_nil ?_; intro w1_hbq hbq; replace hbq := below_of_wext hbq; obtain ⟨chbq, fhbq, shbq⟩ := bfacts2 hbq; (try simp at shbq)))
        refine bodyPost_ret (v := .tuple #[.agg #[.int .i64 p, .int .i64 (pofV p a b), .int .i64 (pofU p n a b), .int .i64 n], .int .i64 0]) (by simp [results, Try.results41, go_sem, ↓IntWalk.iteOmega, *]) rfl ?_
        exact ⟨by simp [pof0, pof1, pof2, pof3, pofOk, pofC, HQ.out, HR.out, H0.out], (by repeat (first | assumption | exact Below.refl _ _ | exact below_box _ | refine Below.drew ?_ | refine Below.setCell ?_ (by first | (simp; done) | (simp; omega)) _ | (refine below_step (by assumption) (by first | omega | (simp; done) | (simp; omega)) ?_) | (refine Below.alloc ?_ (by first | omega | (simp; done) | (simp; omega)) _)))⟩
    · have HR := Lib.hid hr; clear hr
      go_enter Try.func41, Try.ntmps41
      go_wp2_with (first | (go_at_call 88; ((with_reducible refine (calls_bool (sIsRational_any _ _ _) HQ.out).mono ?_); rintro e w1_hb0 ⟨rfl, hb0⟩; obtain ⟨chb0, fhb0, shb0⟩ := bfacts2 hb0; (try simp at shb0))) | (go_at_call 89; ((with_reducible refine (calls_bool (specIsRing_any _ _ _ hn hn') HR.out).mono ?_); rintro e w1_hb1 ⟨rfl, hb1⟩; obtain ⟨chb1, fhb1, shb1⟩ := bfacts2 hb1; (try simp at shb1))) | (refine wp_region_wext (by kernel_rfl) (by kernel_rfl) ?_; (repeat (go_big_quiet_step (first | (go_at_call 88; with_reducible refine calls_wext (calls_bool (sIsRational_any _ _ _) HQ.out)) | (go_at_call 89; with_reducible refine calls_wext (calls_bool (specIsRing_any _ _ _ hn hn') HR.out))))); refine wpQuiet_nil ?_; intro w1_hbq hbq; replace hbq := below_of_wext hbq; obtain ⟨chbq, fhbq, shbq⟩ := bfacts2 hbq; (try simp at shbq)))
      refine bodyPost_ret (v := .tuple #[.agg #[.int .i64 0, .int .i64 0, .int .i64 0, .int .i64 0], .int .i64 1]) (by simp [results, Try.results41, go_sem, ↓IntWalk.iteOmega, *]) rfl ?_
      exact ⟨by simp [pof0, pof1, pof2, pof3, pofOk, pofC, HQ.out, HR.out], (by repeat (first | assumption | exact Below.refl _ _ | exact below_box _ | refine Below.drew ?_ | refine Below.setCell ?_ (by first | (simp; done) | (simp; omega)) _ | (refine below_step (by assumption) (by first | omega | (simp; done) | (simp; omega)) ?_) | (refine Below.alloc ?_ (by first | omega | (simp; done) | (simp; omega)) _)))⟩
  · have HQ := Lib.hid hq; clear hq
    go_enter Try.func41, Try.ntmps41
    go_wp2_with (first | (go_at_call 88; ((with_reducible refine (calls_bool (sIsRational_any _ _ _) HQ.out).mono ?_); rintro e w1_hb0 ⟨rfl, hb0⟩; obtain ⟨chb0, fhb0, shb0⟩ := bfacts2 hb0; (try simp at shb0))) | (refine wp_region_wext (by kernel_rfl) (by kernel_rfl) ?_; (repeat (go_big_quiet_step (first | (go_at_call 88; with_reducible refine calls_wext (calls_bool (sIsRational_any _ _ _) HQ.out))))); refine wpQuiet_nil ?_; intro w1_hbq hbq; replace hbq := below_of_wext hbq; obtain ⟨chbq, fhbq, shbq⟩ := bfacts2 hbq; (try simp at shbq)))
    refine bodyPost_ret (v := .tuple #[.agg #[.int .i64 0, .int .i64 0, .int .i64 0, .int .i64 0], .int .i64 1]) (by simp [results, Try.results41, go_sem, ↓IntWalk.iteOmega, *]) rfl ?_
    exact ⟨by simp [pof0, pof1, pof2, pof3, pofOk, pofC, HQ.out], (by repeat (first | assumption | exact Below.refl _ _ | exact below_box _ | refine Below.drew ?_ | refine Below.setCell ?_ (by first | (simp; done) | (simp; omega)) _ | (refine below_step (by assumption) (by first | omega | (simp; done) | (simp; omega)) ?_) | (refine Below.alloc ?_ (by first | omega | (simp; done) | (simp; omega)) _)))⟩

end Go.Proofs.Ytjampkjgapkklaa
