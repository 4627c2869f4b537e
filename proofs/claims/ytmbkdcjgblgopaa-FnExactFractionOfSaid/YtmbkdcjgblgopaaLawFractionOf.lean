/- 'laws.FnExactFractionOf' returns true for all arguments: the program's FractionOf and the reference's give the same. Conditions: none. -/
import Derived.Test.YtmbkdcjgblgopaaRows
import Derived.WalkKit
import Derived.ProofKit
import Derived.OpenShut
import Derived.ShutString
import Derived.ChangeOld
import Derived.Below
import Derived.Lib.SmallJoins
import Derived.Test.YtmbkdcjgblgopaaF
import Derived.Test.YtmbkdcjgblgopaaG
namespace Go.Proofs.Ytmbkdcjgblgopaa.fractionOf
open Go.ChangeShapes Go.WideShapes Go.ChangeAt Go.RowKit
open Go.ChangeMaps (open_string shut_string)
set_option linter.unusedVariables false
set_option linter.unusedSimpArgs false

def val (p v u n : Int) : Int := if padicB p v u n then (if decide (v + n < 0) then 0 else if decide (0 ≤ v) then 0 else u % p ^ (-v).toNat) else 0
def den (p v u n : Int) : Int := if padicB p v u n then (if decide (v + n < 0) then 0 else if decide (0 ≤ v) then 1 else p ^ (-v).toNat) else 0
def code (p v u n : Int) : Int := if padicB p v u n then (if decide (v + n < 0) then 4 else 0) else 1
theorem frac_pow {p v u n : Int} (h : padicB p v u n = true) (h1 : v < 0) (h2 : 0 ≤ v + n) : 1 ≤ p ^ (-v).toNat ∧ p ^ (-v).toNat ≤ 1000000000 := by
  obtain ⟨a1, a2, a3⟩ := padic_iff.1 h
  have a4 := small_bd a1
  refine ⟨pow_pos' (by omega) _, ?_⟩
  rcases a3 with a3 | a3
  · omega
  · have := ring_bd a3.2.1
    have := pow_mono (show 1 ≤ p by omega) (show (-v).toNat ≤ n.toNat by omega)
    omega
theorem frac_gcd {p v u n : Int} (h : padicB p v u n = true) (h1 : v < 0) (h2 : 0 ≤ v + n) : ((Int.gcd (u % p ^ (-v).toNat) (p ^ (-v).toNat) : Nat) : Int) = 1 := by
  obtain ⟨a1, a2, a3⟩ := padic_iff.1 h
  rcases a3 with a3 | a3
  · omega
  · rw [gcd_pow a1 a3.2.2.1.1 a3.2.2.2]; rfl
theorem gcd01 : ((Int.gcd 0 1 : Nat) : Int) = 1 := by simp
theorem low_lo (p v u n : Int) (w : World) (h : 0 ≤ v) :
    Calls Try.prog 75 #[.agg #[.int .i64 p, .int .i64 v, .int .i64 u, .int .i64 n]] w fun e w' => e = .returned (.tuple #[.int .i64 0, .int .i64 1]) ∧ Below w.heap.size w w' := by
  go_enter Try.func75, Try.ntmps75
  go_wp2_with (first | (go_at_call 79; ((with_reducible refine (l01Abs_any _ _ (by omega) (by omega)).mono ?_); rintro e w' ⟨rfl, rfl⟩)) | (refine wp_region_wext (by kernel_rfl) (by kernel_rfl) ?_; (repeat (go_big_quiet_step (first | (go_at_call 79; with_reducible refine calls_wext_same (l01Abs_any _ _ (by omega) (by omega)))))); refine wpQuiet_nil ?_; intro w1_hbq hbq; replace hbq := below_of_wext hbq; obtain ⟨chbq, fhbq, shbq⟩ := bfacts2 hbq; (try simp at shbq)))
  go_ret2
  exact ⟨rfl, (by repeat (first | exact Below.refl _ _ | exact below_box _ | refine Below.drew ?_ | refine Below.setCell ?_ (by first | (simp; done) | (simp; omega)) _ | (refine below_step (by assumption) (by first | omega | (simp; done) | (simp; omega)) ?_) | (refine Below.alloc ?_ (by first | omega | (simp; done) | (simp; omega)) _)))⟩
set_option maxHeartbeats 1000000 in
theorem low_hi (p v u n : Int) (w : World) (h : v < 0) (h2 : 0 ≤ v + n) (hv : -60 ≤ v) (hp : 2 ≤ p ∧ p ≤ 97) (hu : 0 ≤ u ∧ u ≤ 1000000000) (hQ : 1 ≤ p ^ (-v).toNat ∧ p ^ (-v).toNat ≤ 1000000000) :
    Calls Try.prog 75 #[.agg #[.int .i64 p, .int .i64 v, .int .i64 u, .int .i64 n]] w fun e w' => e = .returned (.tuple #[.int .i64 (u % p ^ (-v).toNat), .int .i64 (p ^ (-v).toNat)]) ∧ Below w.heap.size w w' := by
  have hn : (n == 0) = false := by simp; omega
  have hP0 : ¬ p ^ (-v).toNat = 0 := by omega
  have hM := emod_bd u (p ^ (-v).toNat) hQ.1
  go_enter Try.func75, Try.ntmps75
  go_wp2_with (first | (go_at_call 43; ((with_reducible refine (l02Modulus_pow _ _ _ hp (by omega) (by omega) hQ.2).mono ?_); rintro e w' ⟨rfl, rfl⟩)) | (refine wp_region_wext (by kernel_rfl) (by kernel_rfl) ?_; (repeat (go_big_quiet_step (first | (go_at_call 43; with_reducible refine calls_wext_same (l02Modulus_pow _ _ _ hp (by omega) (by omega) hQ.2))))); refine wpQuiet_nil ?_; intro w1_hbq hbq; replace hbq := below_of_wext hbq; obtain ⟨chbq, fhbq, shbq⟩ := bfacts2 hbq; (try simp at shbq)))
  go_ret2
  exact ⟨rfl, (by repeat (first | exact Below.refl _ _ | exact below_box _ | refine Below.drew ?_ | refine Below.setCell ?_ (by first | (simp; done) | (simp; omega)) _ | (refine below_step (by assumption) (by first | omega | (simp; done) | (simp; omega)) ?_) | (refine Below.alloc ?_ (by first | omega | (simp; done) | (simp; omega)) _)))⟩

set_option maxHeartbeats 1000000 in
theorem spec_any (p v u n : Int) (hn : n ≤ 9223372036854775807) (hn' : -9223372036854775808 ≤ n) (w : World) :
    Calls Try.prog 40 #[.agg #[.int .i64 p, .int .i64 v, .int .i64 u, .int .i64 n]] w fun e w' => e = .returned (.tuple #[.int .i64 (val p v u n), .int .i64 (den p v u n), .int .i64 (code p v u n)]) ∧ Below w.heap.size w w' := by
  rcases Bool.eq_false_or_eq_true (padicB p v u n) with hp | hp
  · have HP := Lib.hid hp; clear hp
    rcases Bool.eq_false_or_eq_true (decide (v + n < 0)) with hx | hx
    · have HX := Lib.hid hx; clear hx
      obtain ⟨b1, b2, b3, b4⟩ := padic_bd HP.out
      have hx0 : v + n < 0 := by have := HX.out; simpa using this
      go_enter Try.func40, Try.ntmps40
      go_wp2_with (first | (go_at_call 22; ((with_reducible refine (calls_bool (specIsPadic_any _ _ _ _ _ hn hn') HP.out).mono ?_); rintro e w1_hb0 ⟨rfl, hb0⟩; obtain ⟨chb0, fhb0, shb0⟩ := bfacts2 hb0; (try simp at shb0))) | (refine wp_region_wext (by kernel_rfl) (by kernel_rfl) ?_; (repeat (go_big_quiet_step (first | (go_at_call 22; with_reducible refine calls_wext (calls_bool (specIsPadic_any _ _ _ _ _ hn hn') HP.out))))); refine wpQuiet_nil ?_; intro w1_hbq hbq; replace hbq := below_of_wext hbq; obtain ⟨chbq, fhbq, shbq⟩ := bfacts2 hbq; (try simp at shbq)))
      go_ret3
      exact ⟨ret3 (by simp [val, HP.out, HX.out]) (by simp [den, HP.out, HX.out]) (by simp [code, HP.out, HX.out]), (by repeat (first | exact Below.refl _ _ | exact below_box _ | refine Below.drew ?_ | refine Below.setCell ?_ (by first | (simp; done) | (simp; omega)) _ | (refine below_step (by assumption) (by first | omega | (simp; done) | (simp; omega)) ?_) | (refine Below.alloc ?_ (by first | omega | (simp; done) | (simp; omega)) _)))⟩
    · have HX := Lib.hid hx; clear hx
      rcases Bool.eq_false_or_eq_true (decide (0 ≤ v)) with hy | hy
      · have HY := Lib.hid hy; clear hy
        obtain ⟨b1, b2, b3, b4⟩ := padic_bd HP.out
        have hx0 : 0 ≤ v + n := by have := HX.out; simpa using this
        have hy0 : 0 ≤ v := by have := HY.out; simpa using this
        go_enter Try.func40, Try.ntmps40
        go_wp2_with (first | (go_at_call 22; ((with_reducible refine (calls_bool (specIsPadic_any _ _ _ _ _ hn hn') HP.out).mono ?_); rintro e w1_hb0 ⟨rfl, hb0⟩; obtain ⟨chb0, fhb0, shb0⟩ := bfacts2 hb0; (try simp at shb0))) | (go_at_call 75; ((with_reducible refine (low_lo _ _ _ _ _ hy0).mono ?_); rintro e w1_hb1 ⟨rfl, hb1⟩; obtain ⟨chb1, fhb1, shb1⟩ := bfacts2 hb1; (try simp at shb1))) | (go_at_call 76; ((with_reducible refine (calls_int (l01Gcd_any _ _ _ ⟨by omega, by omega⟩ ⟨by omega, by omega⟩) gcd01).mono ?_); rintro e w1_hb2 ⟨rfl, hb2⟩; obtain ⟨chb2, fhb2, shb2⟩ := bfacts2 hb2; (try simp at shb2))) | (refine wp_region_wext (by kernel_rfl) (by kernel_rfl) ?_; (repeat (go_big_quiet_step (first | (go_at_call 22; with_reducible refine calls_wext (calls_bool (specIsPadic_any _ _ _ _ _ hn hn') HP.out)) | (go_at_call 75; with_reducible refine calls_wext (low_lo _ _ _ _ _ hy0)) | (go_at_call 76; with_reducible refine calls_wext (calls_int (l01Gcd_any _ _ _ ⟨by omega, by omega⟩ ⟨by omega, by omega⟩) gcd01))))); refine wpQuiet_nil ?_; intro w1_hbq hbq; replace hbq := below_of_wext hbq; obtain ⟨chbq, fhbq, shbq⟩ := bfacts2 hbq; (try simp at shbq)))
        go_ret3
        exact ⟨ret3 (by simp [val, HP.out, HX.out, HY.out]) (by simp [den, HP.out, HX.out, HY.out]) (by simp [code, HP.out, HX.out, HY.out]), (by repeat (first | exact Below.refl _ _ | exact below_box _ | refine Below.drew ?_ | refine Below.setCell ?_ (by first | (simp; done) | (simp; omega)) _ | (refine below_step (by assumption) (by first | omega | (simp; done) | (simp; omega)) ?_) | (refine Below.alloc ?_ (by first | omega | (simp; done) | (simp; omega)) _)))⟩
      · have HY := Lib.hid hy; clear hy
        obtain ⟨b1, b2, b3, b4⟩ := padic_bd HP.out
        have hx0 : 0 ≤ v + n := by have := HX.out; simpa using this
        have hy0 : v < 0 := by have := HY.out; simpa using this
        have hQ := frac_pow HP.out hy0 hx0
        have hP0 : ¬ p ^ (-v).toNat = 0 := by omega
        have hG := Lib.hid (frac_gcd HP.out hy0 hx0)
        have hM := emod_bd u (p ^ (-v).toNat) hQ.1
        go_enter Try.func40, Try.ntmps40
        go_wp2_with (first | (go_at_call 22; ((with_reducible refine (calls_bool (specIsPadic_any _ _ _ _ _ hn hn') HP.out).mono ?_); rintro e w1_hb0 ⟨rfl, hb0⟩; obtain ⟨chb0, fhb0, shb0⟩ := bfacts2 hb0; (try simp at shb0))) | (go_at_call 75; ((with_reducible refine (low_hi _ _ _ _ _ hy0 hx0 b2.1 b1 b4 hQ).mono ?_); rintro e w1_hb1 ⟨rfl, hb1⟩; obtain ⟨chb1, fhb1, shb1⟩ := bfacts2 hb1; (try simp at shb1))) | (go_at_call 76; ((with_reducible refine (calls_int (l01Gcd_any _ _ _ ⟨by omega, by omega⟩ ⟨by omega, by omega⟩) hG.out).mono ?_); rintro e w1_hb2 ⟨rfl, hb2⟩; obtain ⟨chb2, fhb2, shb2⟩ := bfacts2 hb2; (try simp at shb2))) | (refine wp_region_wext (by kernel_rfl) (by kernel_rfl) ?_; (repeat (go_big_quiet_step (first | (go_at_call 22; with_reducible refine calls_wext (calls_bool (specIsPadic_any _ _ _ _ _ hn hn') HP.out)) | (go_at_call 75; with_reducible refine calls_wext (low_hi _ _ _ _ _ hy0 hx0 b2.1 b1 b4 hQ)) | (go_at_call 76; with_reducible refine calls_wext (calls_int (l01Gcd_any _ _ _ ⟨by omega, by omega⟩ ⟨by omega, by omega⟩) hG.out))))); refine wpQuiet_nil ?_; intro w1_hbq hbq; replace hbq := below_of_wext hbq; obtain ⟨chbq, fhbq, shbq⟩ := bfacts2 hbq; (try simp at shbq)))
        go_ret3
        exact ⟨ret3 (by simp [val, HP.out, HX.out, HY.out]) (by simp [den, HP.out, HX.out, HY.out]) (by simp [code, HP.out, HX.out, HY.out]), (by repeat (first | exact Below.refl _ _ | exact below_box _ | refine Below.drew ?_ | refine Below.setCell ?_ (by first | (simp; done) | (simp; omega)) _ | (refine below_step (by assumption) (by first | omega | (simp; done) | (simp; omega)) ?_) | (refine Below.alloc ?_ (by first | omega | (simp; done) | (simp; omega)) _)))⟩
  · have HP := Lib.hid hp; clear hp
    go_enter Try.func40, Try.ntmps40
    go_wp2_with (first | (go_at_call 22; ((with_reducible refine (calls_bool (specIsPadic_any _ _ _ _ _ hn hn') HP.out).mono ?_); rintro e w1_hb0 ⟨rfl, hb0⟩; obtain ⟨chb0, fhb0, shb0⟩ := bfacts2 hb0; (try simp at shb0))) | (refine wp_region_wext (by kernel_rfl) (by kernel_rfl) ?_; (repeat (go_big_quiet_step (first | (go_at_call 22; with_reducible refine calls_wext (calls_bool (specIsPadic_any _ _ _ _ _ hn hn') HP.out))))); refine wpQuiet_nil ?_; intro w1_hbq hbq; replace hbq := below_of_wext hbq; obtain ⟨chbq, fhbq, shbq⟩ := bfacts2 hbq; (try simp at shbq)))
    go_ret3
    exact ⟨ret3 (by simp [val, HP.out]) (by simp [den, HP.out]) (by simp [code, HP.out]), (by repeat (first | exact Below.refl _ _ | exact below_box _ | refine Below.drew ?_ | refine Below.setCell ?_ (by first | (simp; done) | (simp; omega)) _ | (refine below_step (by assumption) (by first | omega | (simp; done) | (simp; omega)) ?_) | (refine Below.alloc ?_ (by first | omega | (simp; done) | (simp; omega)) _)))⟩

set_option maxHeartbeats 1000000 in
theorem impl_any (p v u n : Int) (hn : n ≤ 9223372036854775807) (hn' : -9223372036854775808 ≤ n) (w : World) :
    Calls Try.prog 41 #[.agg #[.int .i64 p, .int .i64 v, .int .i64 u, .int .i64 n]] w fun e w' => e = .returned (.tuple #[.int .i64 (val p v u n), .int .i64 (den p v u n), .int .i64 (code p v u n)]) ∧ Below w.heap.size w w' := by
  rcases Bool.eq_false_or_eq_true (padicB p v u n) with hp | hp
  · have HP := Lib.hid hp; clear hp
    rcases Bool.eq_false_or_eq_true (decide (v + n < 0)) with hx | hx
    · have HX := Lib.hid hx; clear hx
      obtain ⟨b1, b2, b3, b4⟩ := padic_bd HP.out
      have hx0 : v + n < 0 := by have := HX.out; simpa using this
      go_enter Try.func41, Try.ntmps41
      go_wp2_with (first | (go_at_call 24; ((with_reducible refine (calls_bool (IsPadic_any _ _ _ _ _ hn hn') HP.out).mono ?_); rintro e w1_hb0 ⟨rfl, hb0⟩; obtain ⟨chb0, fhb0, shb0⟩ := bfacts2 hb0; (try simp at shb0))) | (go_at_call 61; ((with_reducible refine (end_any _ _ _ _ _ b2.1 b2.2 b3.1 (by omega)).mono ?_); rintro e w1_hb1 ⟨rfl, hb1⟩; obtain ⟨chb1, fhb1, shb1⟩ := bfacts2 hb1; (try simp at shb1))) | (refine wp_region_wext (by kernel_rfl) (by kernel_rfl) ?_; (repeat (go_big_quiet_step (first | (go_at_call 24; with_reducible refine calls_wext (calls_bool (IsPadic_any _ _ _ _ _ hn hn') HP.out)) | (go_at_call 61; with_reducible refine calls_wext (end_any _ _ _ _ _ b2.1 b2.2 b3.1 (by omega)))))); refine wpQuiet_nil ?_; intro w1_hbq hbq; replace hbq := below_of_wext hbq; obtain ⟨chbq, fhbq, shbq⟩ := bfacts2 hbq; (try simp at shbq)))
      go_ret3
      exact ⟨ret3 (by simp [val, HP.out, HX.out]) (by simp [den, HP.out, HX.out]) (by simp [code, HP.out, HX.out]), (by repeat (first | exact Below.refl _ _ | exact below_box _ | refine Below.drew ?_ | refine Below.setCell ?_ (by first | (simp; done) | (simp; omega)) _ | (refine below_step (by assumption) (by first | omega | (simp; done) | (simp; omega)) ?_) | (refine Below.alloc ?_ (by first | omega | (simp; done) | (simp; omega)) _)))⟩
    · have HX := Lib.hid hx; clear hx
      rcases Bool.eq_false_or_eq_true (decide (0 ≤ v)) with hy | hy
      · have HY := Lib.hid hy; clear hy
        obtain ⟨b1, b2, b3, b4⟩ := padic_bd HP.out
        have hx0 : 0 ≤ v + n := by have := HX.out; simpa using this
        have hy0 : 0 ≤ v := by have := HY.out; simpa using this
        go_enter Try.func41, Try.ntmps41
        go_wp2_with (first | (go_at_call 24; ((with_reducible refine (calls_bool (IsPadic_any _ _ _ _ _ hn hn') HP.out).mono ?_); rintro e w1_hb0 ⟨rfl, hb0⟩; obtain ⟨chb0, fhb0, shb0⟩ := bfacts2 hb0; (try simp at shb0))) | (go_at_call 61; ((with_reducible refine (end_any _ _ _ _ _ b2.1 b2.2 b3.1 (by omega)).mono ?_); rintro e w1_hb1 ⟨rfl, hb1⟩; obtain ⟨chb1, fhb1, shb1⟩ := bfacts2 hb1; (try simp at shb1))) | (refine wp_region_wext (by kernel_rfl) (by kernel_rfl) ?_; (repeat (go_big_quiet_step (first | (go_at_call 24; with_reducible refine calls_wext (calls_bool (IsPadic_any _ _ _ _ _ hn hn') HP.out)) | (go_at_call 61; with_reducible refine calls_wext (end_any _ _ _ _ _ b2.1 b2.2 b3.1 (by omega)))))); refine wpQuiet_nil ?_; intro w1_hbq hbq; replace hbq := below_of_wext hbq; obtain ⟨chbq, fhbq, shbq⟩ := bfacts2 hbq; (try simp at shbq)))
        go_ret3
        exact ⟨ret3 (by simp [val, HP.out, HX.out, HY.out]) (by simp [den, HP.out, HX.out, HY.out]) (by simp [code, HP.out, HX.out, HY.out]), (by repeat (first | exact Below.refl _ _ | exact below_box _ | refine Below.drew ?_ | refine Below.setCell ?_ (by first | (simp; done) | (simp; omega)) _ | (refine below_step (by assumption) (by first | omega | (simp; done) | (simp; omega)) ?_) | (refine Below.alloc ?_ (by first | omega | (simp; done) | (simp; omega)) _)))⟩
      · have HY := Lib.hid hy; clear hy
        obtain ⟨b1, b2, b3, b4⟩ := padic_bd HP.out
        have hx0 : 0 ≤ v + n := by have := HX.out; simpa using this
        have hy0 : v < 0 := by have := HY.out; simpa using this
        have hQ := frac_pow HP.out hy0 hx0
        have hP0 : ¬ p ^ (-v).toNat = 0 := by omega
        have hG := Lib.hid (frac_gcd HP.out hy0 hx0)
        have hM := emod_bd u (p ^ (-v).toNat) hQ.1
        go_enter Try.func41, Try.ntmps41
        go_wp2_with (first | (go_at_call 24; ((with_reducible refine (calls_bool (IsPadic_any _ _ _ _ _ hn hn') HP.out).mono ?_); rintro e w1_hb0 ⟨rfl, hb0⟩; obtain ⟨chb0, fhb0, shb0⟩ := bfacts2 hb0; (try simp at shb0))) | (go_at_call 61; ((with_reducible refine (end_any _ _ _ _ _ b2.1 b2.2 b3.1 (by omega)).mono ?_); rintro e w1_hb1 ⟨rfl, hb1⟩; obtain ⟨chb1, fhb1, shb1⟩ := bfacts2 hb1; (try simp at shb1))) | (go_at_call 69; ((with_reducible refine (power_any _ _ _ (by omega) (by omega) (by omega)).mono ?_); rintro e w' ⟨rfl, rfl⟩)) | (refine wp_region_wext (by kernel_rfl) (by kernel_rfl) ?_; (repeat (go_big_quiet_step (first | (go_at_call 24; with_reducible refine calls_wext (calls_bool (IsPadic_any _ _ _ _ _ hn hn') HP.out)) | (go_at_call 61; with_reducible refine calls_wext (end_any _ _ _ _ _ b2.1 b2.2 b3.1 (by omega))) | (go_at_call 69; with_reducible refine calls_wext_same (power_any _ _ _ (by omega) (by omega) (by omega)))))); refine wpQuiet_nil ?_; intro w1_hbq hbq; replace hbq := below_of_wext hbq; obtain ⟨chbq, fhbq, shbq⟩ := bfacts2 hbq; (try simp at shbq)))
        go_ret3
        exact ⟨ret3 (by simp [val, HP.out, HX.out, HY.out]) (by simp [den, HP.out, HX.out, HY.out]) (by simp [code, HP.out, HX.out, HY.out]), (by repeat (first | exact Below.refl _ _ | exact below_box _ | refine Below.drew ?_ | refine Below.setCell ?_ (by first | (simp; done) | (simp; omega)) _ | (refine below_step (by assumption) (by first | omega | (simp; done) | (simp; omega)) ?_) | (refine Below.alloc ?_ (by first | omega | (simp; done) | (simp; omega)) _)))⟩
  · have HP := Lib.hid hp; clear hp
    go_enter Try.func41, Try.ntmps41
    go_wp2_with (first | (go_at_call 24; ((with_reducible refine (calls_bool (IsPadic_any _ _ _ _ _ hn hn') HP.out).mono ?_); rintro e w1_hb0 ⟨rfl, hb0⟩; obtain ⟨chb0, fhb0, shb0⟩ := bfacts2 hb0; (try simp at shb0))) | (refine wp_region_wext (by kernel_rfl) (by kernel_rfl) ?_; (repeat (go_big_quiet_step (first | (go_at_call 24; with_reducible refine calls_wext (calls_bool (IsPadic_any _ _ _ _ _ hn hn') HP.out))))); refine wpQuiet_nil ?_; intro w1_hbq hbq; replace hbq := below_of_wext hbq; obtain ⟨chbq, fhbq, shbq⟩ := bfacts2 hbq; (try simp at shbq)))
    go_ret3
    exact ⟨ret3 (by simp [val, HP.out]) (by simp [den, HP.out]) (by simp [code, HP.out]), (by repeat (first | exact Below.refl _ _ | exact below_box _ | refine Below.drew ?_ | refine Below.setCell ?_ (by first | (simp; done) | (simp; omega)) _ | (refine below_step (by assumption) (by first | omega | (simp; done) | (simp; omega)) ?_) | (refine Below.alloc ?_ (by first | omega | (simp; done) | (simp; omega)) _)))⟩


theorem walk (a0x0 a0x1 a0x2 a0x3 : Int) (w : World) (ha0x0 : -9223372036854775808 ≤ a0x0 ∧ a0x0 ≤ 9223372036854775807) (ha0x1 : -9223372036854775808 ≤ a0x1 ∧ a0x1 ≤ 9223372036854775807) (ha0x2 : -9223372036854775808 ≤ a0x2 ∧ a0x2 ≤ 9223372036854775807) (ha0x3 : -9223372036854775808 ≤ a0x3 ∧ a0x3 ≤ 9223372036854775807) :
    Calls Try.prog 14 #[.agg #[.int .i64 a0x0, .int .i64 a0x1, .int .i64 a0x2, .int .i64 a0x3]] w fun e w' => e = .returned (.bool true) ∧ Below w.heap.size w w' := by
  go_enter Try.func14, Try.ntmps14
  go_wp2_with (first | (go_at_call 23; ((with_reducible refine (toPadic_any _ _ _ _ _).mono ?_); rintro e w1_hb0 ⟨rfl, hb0⟩; obtain ⟨chb0, fhb0, shb0⟩ := bfacts2 hb0; (try simp at shb0))) | (go_at_call 40; ((with_reducible refine (spec_any _ _ _ _ ha0x3.2 ha0x3.1 _).mono ?_); rintro e w1_hb1 ⟨rfl, hb1⟩; obtain ⟨chb1, fhb1, shb1⟩ := bfacts2 hb1; (try simp at shb1))) | (go_at_call 41; ((with_reducible refine (impl_any _ _ _ _ ha0x3.2 ha0x3.1 _).mono ?_); rintro e w1_hb2 ⟨rfl, hb2⟩; obtain ⟨chb2, fhb2, shb2⟩ := bfacts2 hb2; (try simp at shb2))) | (refine wp_region_wext (by kernel_rfl) (by kernel_rfl) ?_; (repeat (go_big_quiet_step (first | (go_at_call 23; with_reducible refine calls_wext (toPadic_any _ _ _ _ _)) | (go_at_call 40; with_reducible refine calls_wext (spec_any _ _ _ _ ha0x3.2 ha0x3.1 _)) | (go_at_call 41; with_reducible refine calls_wext (impl_any _ _ _ _ ha0x3.2 ha0x3.1 _))))); refine wpQuiet_nil ?_; intro w1_hbq hbq; replace hbq := below_of_wext hbq; obtain ⟨chbq, fhbq, shbq⟩ := bfacts2 hbq; (try simp at shbq)))
  go_ret
  exact ⟨rfl, (by repeat (first | exact Below.refl _ _ | exact below_box _ | refine Below.drew ?_ | refine Below.setCell ?_ (by first | (simp; done) | (simp; omega)) _ | (refine below_step (by assumption) (by first | omega | (simp; done) | (simp; omega)) ?_) | (refine Below.alloc ?_ (by first | omega | (simp; done) | (simp; omega)) _)))⟩

theorem own : ownKnob Try.prog.godebug = none := by kernel_rfl
theorem laidOut : laidOutB Try.prog = true := by kernel_rfl
theorem cells32 : Try.prog.cellsOf 32 = 4 := by kernel_rfl

set_option maxRecDepth 100000 in
theorem lifted (os : Os) (started : os.Started) (H : Type) (enc : TypeId × Value → H) :
    ReturnsInHanded {} Try.checked os 14 .any (Rows.fnExactFractionOfSpec.pre6 enc Try.prog Try.f14 Rows.fnExactFractionOfRow.domain false) (Rows.fnExactFractionOfSpec.post enc Try.prog Try.f14 false true false false) := by
  refine returnsInHanded_of_change (C := Try.checked) own started (by kernel_rfl) Try.func14
    (ChangeSpec.witness6 (enc := enc) (C := Try.checked) false ⟨#[], #[.agg #[.int .i64 0, .int .i64 0, .int .i64 0, .int .i64 0]], []⟩ 8 (by kernel_rfl) (by kernel_rfl) (by kernel_rfl) (by kernel_rfl)) ?_
  intro W base args ds gs before hval0 hW hcnd _
  have hval : ∀ (j : Nat) t v, Try.f14.params[j]? = some t → args[j]? = some v → Value.okWide Try.prog W .any base t v := hval0
  have hW' := hW
  obtain ⟨p, q, hA0, hV, rfl, hfz, hnd⟩ := hW
  have hA : DataW.TrodAll enc Try.prog W 0 (fun _ => true) true Try.f14.params.toList args.toList ds p := hA0
  rw [Try.params14] at hA hval
  obtain ⟨v0, vs0, d0, ds0, p0, q0, hargs, rfl, rfl, h0, r0⟩ := trodAll_cons hA
  obtain ⟨rfl, rfl, rfl⟩ := trodAll_nil r0
  obtain rfl : args = #[v0] := by cases args; simp_all
  obtain ⟨rfl, rfl⟩ := trodVars_none hV
  have k0 := h0
  have lt0 : ∀ x ∈ p0, x.block < W.heap.size := by obtain ⟨m, hm⟩ := k0; exact DataW.trod_lt m _ _ _ hm
  obtain ⟨c0x0, c0x1, c0x2, c0x3, y0x0, y0x1, y0x2, y0x3, m0, rfl, _, _, hy0x0, hy0x1, hy0x2, hy0x3⟩ := Joins.open_agg4 Try.underlying32 (by kernel_rfl) cells32 (hval 0 32 v0 rfl rfl) h0
  obtain ⟨a0x0, e0x0, _, wf0x0⟩ := DataW.trod_int Try.underlying2 hy0x0
  simp at e0x0; subst e0x0
  obtain ⟨a0x1, e0x1, _, wf0x1⟩ := DataW.trod_int Try.underlying2 hy0x1
  simp at e0x1; subst e0x1
  obtain ⟨a0x2, e0x2, _, wf0x2⟩ := DataW.trod_int Try.underlying2 hy0x2
  simp at e0x2; subst e0x2
  obtain ⟨a0x3, e0x3, _, wf0x3⟩ := DataW.trod_int Try.underlying2 hy0x3
  simp at e0x3; subst e0x3
  clear hA0 hval0
  refine (walk a0x0 a0x1 a0x2 a0x3 W (bounds_i64 wf0x0) (bounds_i64 wf0x1) (bounds_i64 wf0x2) (bounds_i64 wf0x3)).mono fun e W' ⟨he, bel⟩ => ?_
  subst he
  exact ⟨_, rfl, _, _, _, [], _, [], hW', trodAll_mk1 (shut_bool Try.underlying4 _), (trodAll_cons_mk (Below.trod laidOut (by kernel_rfl) (of_decide_eq_true (by kernel_rfl)) k0 bel lt0) trodAll_mk0), rfl, bel.frame _, fun h => by cases h⟩

theorem over : Rows.fnExactFractionOfRow.holds Try.pinned (OpenSpec.ofChange Rows.fnExactFractionOfSpec) :=
  OpenClaim.holds_of_wide 14 Try.f14 rfl rfl rfl rfl rfl rfl rfl ⟨rfl, rfl, rfl, rfl, rfl⟩ rfl rfl rfl rfl rfl (by kernel_rfl) Try.func14 (by kernel_rfl)
    (of_decide_eq_true (by kernel_rfl)) (by unfold Func.isWrapper; first | (rw [if_pos (by decide +kernel)]; kernel_rfl) | (rw [if_neg (by decide +kernel)]; exact ⟨rfl, rfl⟩))
    (fun os started H enc _ => lifted os started H enc)

theorem proved : Rows.FnExactFractionOfSaid := over
#print axioms proved
end Go.Proofs.Ytmbkdcjgblgopaa.fractionOf
