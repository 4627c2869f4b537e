/- Contracts: more on p-adic numbers. -/
import Derived.Test.YtmbkdcjgblgopaaC
import Derived.Test.YtmbkdcjgblgopaaD
import Derived.Deep.RegionWith
import Derived.Deep.RegionHeld3
import Derived.Test.YtmbkdcjgblgopaaT
namespace Go.Proofs.Ytmbkdcjgblgopaa
open Go.RowKit
set_option linter.unusedVariables false
set_option linter.unusedSimpArgs false

/-- A p-adic number as a value. -/
abbrev padV (p v u n : Int) : Value := .agg #[.int .i64 p, .int .i64 v, .int .i64 u, .int .i64 n]
theorem toPadic_any (p v u n : Int) (w : World) :
    Calls Try.prog 23 #[.agg #[.int .i64 p, .int .i64 v, .int .i64 u, .int .i64 n]] w fun e w' => e = .returned (.agg #[.int .i64 p, .int .i64 v, .int .i64 u, .int .i64 n]) ∧ Below w.heap.size w w' := by
  go_enter Try.func23, Try.ntmps23
  go_wp2
  refine bodyPost_ret (v := .agg #[.int .i64 p, .int .i64 v, .int .i64 u, .int .i64 n]) (by simp [results, Try.results23, go_sem, ↓IntWalk.iteOmega]) rfl ?_
  exact ⟨rfl, ((below_box _).alloc (by simp) _).alloc (by simp; omega) _⟩
theorem padic_bd {p v u n : Int} (h : padicB p v u n = true) : (2 ≤ p ∧ p ≤ 97) ∧ (-60 ≤ v ∧ v ≤ 60) ∧ (0 ≤ n ∧ n ≤ 29) ∧ (0 ≤ u ∧ u ≤ 1000000000) := by
  obtain ⟨h1, h2, h3⟩ := padic_iff.1 h
  refine ⟨small_bd h1, h2, ?_⟩
  rcases h3 with ⟨h3, h4⟩ | ⟨_, h4, h5, _⟩
  · omega
  · have := ring_bd h4; omega
theorem eqPadic_same (p v u n : Int) (w : World) :
    Calls Try.prog 33 #[.agg #[.int .i64 p, .int .i64 v, .int .i64 u, .int .i64 n], .agg #[.int .i64 p, .int .i64 v, .int .i64 u, .int .i64 n]] w fun e w' => e = .returned (.bool true) ∧ Below w.heap.size w w' := by
  go_enter Try.func33, Try.ntmps33
  go_wp2
  go_ret
  exact ⟨rfl, (below_box _).alloc (by simp) _⟩
/-- The code of a ring and a residue. -/
def resCode (p n a : Int) : Int := if ringB p n then (if inB a 0 (p ^ n.toNat - 1) then 0 else 2) else 1
theorem l02Code_any (p n a : Int) (w : World) (hn : n ≤ 9223372036854775807) (hn' : -9223372036854775808 ≤ n) :
    Calls Try.prog 62 #[.agg #[.int .i64 p, .int .i64 n], .int .i64 a] w fun e w' => e = .returned (.int .i64 (resCode p n a)) ∧ Below w.heap.size w w' := by
  by_cases hr : ringB p n = true
  · obtain ⟨b1, b2, b3⟩ := ring_bd hr
    by_cases hu : inB a 0 (p ^ n.toNat - 1) = true
    · have HR := Lib.hid hr; have HU := Lib.hid hu; clear hr hu
      go_enter Try.func62, Try.ntmps62
      go_wp2_with (first | (go_at_call 42; ((with_reducible refine (calls_bool (specIsRing_any _ _ _ hn hn') HR.out).mono ?_); rintro e w1_hb0 ⟨rfl, hb0⟩; obtain ⟨chb0, fhb0, shb0⟩ := bfacts hb0; (try have l0hb0 : w.heap.size < w1_hb0.heap.size := (by first | (simp at shb0; omega) | omega)); (try have l1hb0 : w.heap.size + 1 < w1_hb0.heap.size := (by first | (simp at shb0; omega) | omega)))) | (go_at_call 43; ((with_reducible refine (l02Modulus_ring _ _ _ HR.out).mono ?_); rintro e w' ⟨rfl, rfl⟩)) | (go_at_call 53; ((with_reducible refine (calls_bool (l01In_any _ _ _ _) HU.out).mono ?_); rintro e w' ⟨rfl, rfl⟩)) | (refine wp_region_wext (by kernel_rfl) (by kernel_rfl) ?_; (repeat (go_big_quiet_step (first | (go_at_call 42; with_reducible refine calls_wext (calls_bool (specIsRing_any _ _ _ hn hn') HR.out)) | (go_at_call 43; with_reducible refine calls_wext_same (l02Modulus_ring _ _ _ HR.out)) | (go_at_call 53; with_reducible refine calls_wext_same (calls_bool (l01In_any _ _ _ _) HU.out))))); refine wpQuiet_nil ?_; intro w1_hbq hbq; replace hbq := below_of_wext hbq; obtain ⟨chbq, fhbq, shbq⟩ := bfacts hbq; (try have l0hbq : w.heap.size < w1_hbq.heap.size := (by first | (simp at shbq; omega) | omega)); (try have l1hbq : w.heap.size + 1 < w1_hbq.heap.size := (by first | (simp at shbq; omega) | omega))))
      go_ret
      exact ⟨ret_int (by simp [resCode, HR.out, HU.out]), (by repeat (first | exact Below.refl _ _ | exact below_box _ | refine Below.drew ?_ | refine Below.setCell ?_ (by first | (simp; done) | (simp; omega)) _ | (refine below_step (by assumption) (by first | omega | (simp; done) | (simp; omega)) ?_) | (refine Below.alloc ?_ (by first | omega | (simp; done) | (simp; omega)) _)))⟩
    · have hu' : inB a 0 (p ^ n.toNat - 1) = false := by simpa using hu
      have HR := Lib.hid hr; have HU := Lib.hid hu'; clear hr hu hu'
      go_enter Try.func62, Try.ntmps62
      go_wp2_with (first | (go_at_call 42; ((with_reducible refine (calls_bool (specIsRing_any _ _ _ hn hn') HR.out).mono ?_); rintro e w1_hb0 ⟨rfl, hb0⟩; obtain ⟨chb0, fhb0, shb0⟩ := bfacts hb0; (try have l0hb0 : w.heap.size < w1_hb0.heap.size := (by first | (simp at shb0; omega) | omega)); (try have l1hb0 : w.heap.size + 1 < w1_hb0.heap.size := (by first | (simp at shb0; omega) | omega)))) | (go_at_call 43; ((with_reducible refine (l02Modulus_ring _ _ _ HR.out).mono ?_); rintro e w' ⟨rfl, rfl⟩)) | (go_at_call 53; ((with_reducible refine (calls_bool (l01In_any _ _ _ _) HU.out).mono ?_); rintro e w' ⟨rfl, rfl⟩)) | (refine wp_region_wext (by kernel_rfl) (by kernel_rfl) ?_; (repeat (go_big_quiet_step (first | (go_at_call 42; with_reducible refine calls_wext (calls_bool (specIsRing_any _ _ _ hn hn') HR.out)) | (go_at_call 43; with_reducible refine calls_wext_same (l02Modulus_ring _ _ _ HR.out)) | (go_at_call 53; with_reducible refine calls_wext_same (calls_bool (l01In_any _ _ _ _) HU.out))))); refine wpQuiet_nil ?_; intro w1_hbq hbq; replace hbq := below_of_wext hbq; obtain ⟨chbq, fhbq, shbq⟩ := bfacts hbq; (try have l0hbq : w.heap.size < w1_hbq.heap.size := (by first | (simp at shbq; omega) | omega)); (try have l1hbq : w.heap.size + 1 < w1_hbq.heap.size := (by first | (simp at shbq; omega) | omega))))
      go_ret
      exact ⟨ret_int (by simp [resCode, HR.out, HU.out]), (by repeat (first | exact Below.refl _ _ | exact below_box _ | refine Below.drew ?_ | refine Below.setCell ?_ (by first | (simp; done) | (simp; omega)) _ | (refine below_step (by assumption) (by first | omega | (simp; done) | (simp; omega)) ?_) | (refine Below.alloc ?_ (by first | omega | (simp; done) | (simp; omega)) _)))⟩
  · have hr' : ringB p n = false := by simpa using hr
    have HR := Lib.hid hr'; clear hr hr'
    go_enter Try.func62, Try.ntmps62
    go_wp2_with (go_at_call 42; ((with_reducible refine (calls_bool (specIsRing_any _ _ _ hn hn') HR.out).mono ?_); rintro e w1_hb1 ⟨rfl, hb1⟩; obtain ⟨chb1, fhb1, shb1⟩ := bfacts hb1; (try have l0hb1 : w.heap.size < w1_hb1.heap.size := (by first | (simp at shb1; omega) | omega)); (try have l1hb1 : w.heap.size + 1 < w1_hb1.heap.size := (by first | (simp at shb1; omega) | omega))))
    go_ret
    exact ⟨ret_int (by simp [resCode, HR.out]), (by repeat (first | exact Below.refl _ _ | exact below_box _ | refine Below.drew ?_ | refine Below.setCell ?_ (by first | (simp; done) | (simp; omega)) _ | (refine below_step (by assumption) (by first | omega | (simp; done) | (simp; omega)) ?_) | (refine Below.alloc ?_ (by first | omega | (simp; done) | (simp; omega)) _)))⟩
theorem l03Digit_lo (p v u n place : Int) (w : World) (h : place < v) :
    Calls Try.prog 70 #[.agg #[.int .i64 p, .int .i64 v, .int .i64 u, .int .i64 n], .int .i64 place] w fun e w' => e = .returned (.int .i64 0) ∧ Below w.heap.size w w' := by
  go_enter Try.func70, Try.ntmps70
  go_wp2
  go_ret
  exact ⟨rfl, below_box _⟩
theorem digit_lo (p v u n place : Int) (w : World) (h : place < v) :
    Calls Try.prog 71 #[.agg #[.int .i64 p, .int .i64 v, .int .i64 u, .int .i64 n], .int .i64 place] w fun e w' => e = .returned (.int .i64 0) ∧ Below w.heap.size w w' := by
  go_enter Try.func71, Try.ntmps71
  go_wp2
  go_ret
  exact ⟨rfl, below_box _⟩
theorem l03Digit_hi (p v u n place : Int) (w : World) (h : v ≤ place) (hp : 2 ≤ p ∧ p ≤ 97) (hu : 0 ≤ u) (hu2 : u ≤ 1000000000) (hv : -60 ≤ v ∧ v ≤ 60) (hb : place ≤ 100) (hP : 1 ≤ p ^ (place - v).toNat ∧ p ^ (place - v).toNat ≤ 1000000000) :
    Calls Try.prog 70 #[.agg #[.int .i64 p, .int .i64 v, .int .i64 u, .int .i64 n], .int .i64 place] w fun e w' => e = .returned (.int .i64 (u / p ^ (place - v).toNat % p)) ∧ Below w.heap.size w w' := by
  obtain ⟨b1, b2⟩ := div_bd hu hP.1
  go_enter Try.func70, Try.ntmps70
  go_wp2_with (first | (go_at_call 43; ((with_reducible refine (l02Modulus_pow _ _ _ hp (by omega) (by omega) hP.2).mono ?_); rintro e w' ⟨rfl, rfl⟩)) | (refine wp_region_wext (by kernel_rfl) (by kernel_rfl) ?_; (repeat (go_big_quiet_step (first | (go_at_call 43; with_reducible refine calls_wext_same (l02Modulus_pow _ _ _ hp (by omega) (by omega) hP.2))))); refine wpQuiet_nil ?_; intro w1_hbq hbq; replace hbq := below_of_wext hbq; obtain ⟨chbq, fhbq, shbq⟩ := bfacts hbq; (try have l0hbq : w.heap.size < w1_hbq.heap.size := (by first | (simp at shbq; omega) | omega)); (try have l1hbq : w.heap.size + 1 < w1_hbq.heap.size := (by first | (simp at shbq; omega) | omega))))
  go_ret
  exact ⟨rfl, (by repeat (first | exact Below.refl _ _ | exact below_box _ | refine Below.drew ?_ | refine Below.setCell ?_ (by first | (simp; done) | (simp; omega)) _ | (refine below_step (by assumption) (by first | omega | (simp; done) | (simp; omega)) ?_) | (refine Below.alloc ?_ (by first | omega | (simp; done) | (simp; omega)) _)))⟩
theorem digit_hi (p v u n place : Int) (w : World) (h : v ≤ place) (hp : 2 ≤ p ∧ p ≤ 97) (hu : 0 ≤ u) (hu2 : u ≤ 1000000000) (hv : -60 ≤ v ∧ v ≤ 60) (hb : place ≤ 100) (hP : 1 ≤ p ^ (place - v).toNat ∧ p ^ (place - v).toNat ≤ 1000000000) :
    Calls Try.prog 71 #[.agg #[.int .i64 p, .int .i64 v, .int .i64 u, .int .i64 n], .int .i64 place] w fun e w' => e = .returned (.int .i64 (u / p ^ (place - v).toNat % p)) ∧ Below w.heap.size w w' := by
  obtain ⟨b1, b2⟩ := div_bd hu hP.1
  go_enter Try.func71, Try.ntmps71
  go_wp2_with (first | (go_at_call 69; ((with_reducible refine (power_any _ _ _ (by omega) (by omega) (by omega)).mono ?_); rintro e w' ⟨rfl, rfl⟩)) | (refine wp_region_wext (by kernel_rfl) (by kernel_rfl) ?_; (repeat (go_big_quiet_step (first | (go_at_call 69; with_reducible refine calls_wext_same (power_any _ _ _ (by omega) (by omega) (by omega)))))); refine wpQuiet_nil ?_; intro w1_hbq hbq; replace hbq := below_of_wext hbq; obtain ⟨chbq, fhbq, shbq⟩ := bfacts hbq; (try have l0hbq : w.heap.size < w1_hbq.heap.size := (by first | (simp at shbq; omega) | omega)); (try have l1hbq : w.heap.size + 1 < w1_hbq.heap.size := (by first | (simp at shbq; omega) | omega))))
  go_ret
  exact ⟨rfl, (by repeat (first | exact Below.refl _ _ | exact below_box _ | refine Below.drew ?_ | refine Below.setCell ?_ (by first | (simp; done) | (simp; omega)) _ | (refine below_step (by assumption) (by first | omega | (simp; done) | (simp; omega)) ?_) | (refine Below.alloc ?_ (by first | omega | (simp; done) | (simp; omega)) _)))⟩
theorem cut_any (p v u n k : Int) (w : World) (hu : 0 ≤ u) (hu2 : u ≤ 1000000000) (hk : k ≤ 40) (hP : 1 ≤ p ^ k.toNat ∧ p ^ k.toNat ≤ 1000000000) :
    Calls Try.prog 72 #[.agg #[.int .i64 p, .int .i64 v, .int .i64 u, .int .i64 n], .int .i64 k] w fun e w' => e = .returned (.agg #[.int .i64 p, .int .i64 v, .int .i64 (u % p ^ k.toNat), .int .i64 k]) ∧ Below w.heap.size w w' := by
  go_enter Try.func72, Try.ntmps72
  have hP0 : ¬ p ^ k.toNat = 0 := by omega
  go_wp2_with fail
  go_region_with (go_at_call 69; ((with_reducible refine (power_any _ _ _ (by omega) (by omega) (by omega)).mono ?_); rintro e w' ⟨rfl, rfl⟩))
  all_goals
    go_wp2
    refine bodyPost_ret (v := .agg #[.int .i64 p, .int .i64 v, .int .i64 (u % p ^ k.toNat), .int .i64 k]) (by simp [results, Try.results72, go_sem, ↓IntWalk.iteOmega]) rfl ?_
    exact ⟨rfl, (by repeat (first | exact Below.refl _ _ | exact below_box _ | refine Below.drew ?_ | refine Below.setCell ?_ (by first | (simp; done) | (simp; omega)) _ | (refine below_step (by assumption) (by first | omega | (simp; done) | (simp; omega)) ?_) | (refine Below.alloc ?_ (by first | omega | (simp; done) | (simp; omega)) _)))⟩
theorem l01Abs_any (n : Int) (w : World) (h1 : -9223372036854775807 ≤ n) (h2 : n ≤ 9223372036854775807) :
    Calls Try.prog 79 #[.int .i64 n] w fun e w' => e = .returned (.int .i64 n.natAbs) ∧ w = w' := by
  by_cases h : 0 ≤ n
  · go_enter Try.func79, Try.ntmps79
    go_wp2
    go_ret
    exact ⟨ret_int (by omega), rfl⟩
  · go_enter Try.func79, Try.ntmps79
    go_wp2
    go_ret
    exact ⟨ret_int (by omega), rfl⟩
theorem l01Gcd_any (a b : Int) (w : World) (h1 : -9223372036854775807 ≤ a ∧ a ≤ 9223372036854775807) (h2 : -9223372036854775807 ≤ b ∧ b ≤ 9223372036854775807) :
    Calls Try.prog 76 #[.int .i64 a, .int .i64 b] w fun e w' => e = .returned (.int .i64 (Int.gcd a b)) ∧ Below w.heap.size w w' := by
  go_enter Try.func76, Try.ntmps76
  go_wp2_with (go_at_call 79; ((with_reducible refine (l01Abs_any _ _ (by omega) (by omega)).mono ?_); rintro e w' ⟨rfl, rfl⟩))
  go_loopw [0, 1] (fun x y wr => ∃ A B : Nat, x = .int .i64 A ∧ y = .int .i64 B ∧ A ≤ 9223372036854775807 ∧ B ≤ 9223372036854775807 ∧ Nat.gcd A B = Int.gcd a b ∧ Below w.heap.size w wr) (fun _ y _ => (intOf y).toNat)
  case atStart => exact ⟨a.natAbs, b.natAbs, rfl, rfl, by omega, by omega, rfl, Below.refl _ _⟩
  case round =>
    obtain ⟨A, B, rfl, rfl, hA, hB, hg, hbel⟩ := hrel
    by_cases hB0 : B = 0
    · have HG := Lib.hid hg
      subst hB0
      clear hg
      go_wp2
      go_ret
      exact ⟨ret_int (by rw [← HG.out, Nat.gcd_zero_right]), hbel⟩
    · have hB2 : ¬ (B : Int) = 0 := by simpa using hB0
      have HG := Lib.hid (show Nat.gcd B (A % B) = Int.gcd a b by rw [← hg, Nat.gcd_comm A B, Nat.gcd_rec B A, Nat.gcd_comm])
      have hlt := Nat.mod_lt A (show B > 0 by omega)
      clear hg
      go_wp2
      go_region
      all_goals go_wp2
      all_goals go_roundw
      case rel => exact ⟨B, A % B, rfl, vint (by simp), hB, by omega, HG.out, hbel.drew⟩
      case measure => simp [intOf]; omega
end Go.Proofs.Ytmbkdcjgblgopaa
