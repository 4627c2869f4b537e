/- 'laws.FnExactMakePadic' returns true for all arguments: the program's MakePadic and the reference's give the same. Conditions: none. -/
import Derived.Test.YtmbkdcjgblgopaaRows
import Derived.WalkKit
import Derived.ProofKit
import Derived.OpenShut
import Derived.ShutString
import Derived.ChangeOld
import Derived.Below
import Derived.Lib.SmallJoins
import Derived.Test.YtmbkdcjgblgopaaF
import Derived.Test.YtmbkdcjgblgopaaG
namespace Go.Proofs.Ytmbkdcjgblgopaa.makePadic
open Go.ChangeShapes Go.WideShapes Go.ChangeAt Go.RowKit
open Go.ChangeMaps (open_string shut_string)
set_option linter.unusedVariables false
set_option linter.unusedSimpArgs false

def ok (p n k : Int) : Bool := ringB p k && inB n (-1000000000000) 1000000000000 && (n != 0)
def rp (p n k : Int) : Int := if ok p n k then p else 0
def rv (p n k : Int) : Int := if ok p n k then vp p n else 0
def ru (p n k : Int) : Int := if ok p n k then n / p ^ vp p n % p ^ k.toNat else 0
def rk (p n k : Int) : Int := if ok p n k then k else 0
def code (p n k : Int) : Int := if ringB p k then (if inB n (-1000000000000) 1000000000000 then (if n != 0 then 0 else 2) else 2) else 1

set_option maxHeartbeats 1000000 in
theorem impl_any (p n k : Int) (hn : k ≤ 9223372036854775807) (hn' : -9223372036854775808 ≤ k) (w : World) :
    Calls Try.prog 32 #[.int .i64 p, .int .i64 n, .int .i64 k] w fun e w' => e = .returned (.tuple #[.agg #[.int .i64 (rp p n k), .int .i64 (rv p n k), .int .i64 (ru p n k), .int .i64 (rk p n k)], .int .i64 (code p n k)]) ∧ Below w.heap.size w w' := by
  rcases Bool.eq_false_or_eq_true (ringB p k) with hr | hr
  · have HR := Lib.hid hr; clear hr
    rcases Bool.eq_false_or_eq_true (inB n (-1000000000000) 1000000000000) with hv | hv
    · have HV := Lib.hid hv; clear hv
      rcases Bool.eq_false_or_eq_true ((n != 0)) with hz | hz
      · have HZ := Lib.hid hz; clear hz
        have hz0 : (n == 0) = false := by have := HZ.out; simpa using this
        have hz1 : n ≠ 0 := by simpa using hz0
        obtain ⟨h1, h2, h3⟩ := ring_bd HR.out
        have hv1 := inB_iff.1 HV.out
        have hP := vp_pow_le h1.1 hz1
        have hV := vp_le h1.1 hz1
        have hq := Lib.hid (vp_spec h1.1 hz1)
        obtain ⟨q1, q2⟩ : -1000000000000 ≤ n.tdiv (p ^ vp p n) ∧ n.tdiv (p ^ vp p n) ≤ 1000000000000 := by
          have := quo_le (n := n) hP.1
          rw [hq.out.2.2]; omega
        have hP0 : ¬ p ^ vp p n = 0 := by omega
        go_enter Try.func32, Try.ntmps32
        go_wp2_with (first | (go_at_call 44; ((with_reducible refine (calls_bool (IsRing_any _ _ _ hn hn') HR.out).mono ?_); rintro e w1_hb0 ⟨rfl, hb0⟩; obtain ⟨chb0, fhb0, shb0⟩ := bfacts2 hb0; (try simp at shb0))) | (go_at_call 50; ((with_reducible refine (calls_bool (isValue_any _ _) HV.out).mono ?_); rintro e w' ⟨rfl, rfl⟩)) | (go_at_call 68; ((with_reducible refine (valuation_any _ _ _ hz1 (by omega) (by omega) h1.1 (by omega)).mono ?_); rintro e w' ⟨rfl, rfl⟩)) | (go_at_call 69; ((with_reducible refine (power_any _ _ _ (by omega) (by rw [Int.toNat_natCast]; omega) (by rw [Int.toNat_natCast]; omega)).mono ?_); rintro e w' ⟨rfl, rfl⟩)) | (go_at_call 45; ((with_reducible refine (modulus_any _ _ _ HR.out).mono ?_); rintro e w1_hb4 ⟨rfl, hb4⟩; obtain ⟨chb4, fhb4, shb4⟩ := bfacts2 hb4; (try simp at shb4))) | (go_at_call 51; ((with_reducible refine (mod_any _ _ _ (by omega) (by omega)).mono ?_); rintro e w' ⟨rfl, rfl⟩)) | (refine wp_region_wext_tail 12 (by kernel_rfl) (by kernel_rfl) ?_; simp only [List.take_succ_cons, List.take_zero, List.drop_succ_cons, List.drop_zero]; (repeat (go_big_quiet_step (first | (go_at_call 44; with_reducible refine calls_wext (calls_bool (IsRing_any _ _ _ hn hn') HR.out)) | (go_at_call 50; with_reducible refine calls_wext_same (calls_bool (isValue_any _ _) HV.out)) | (go_at_call 68; with_reducible refine calls_wext_same (valuation_any _ _ _ hz1 (by omega) (by omega) h1.1 (by omega))) | (go_at_call 69; with_reducible refine calls_wext_same (power_any _ _ _ (by omega) (by rw [Int.toNat_natCast]; omega) (by rw [Int.toNat_natCast]; omega))) | (go_at_call 45; with_reducible refine calls_wext (modulus_any _ _ _ HR.out)) | (go_at_call 51; with_reducible refine calls_wext_same (mod_any _ _ _ (by omega) (by omega)))))); refine wpQuiet_nil ?_; intro w1_hbq hbq; replace hbq := below_of_wext hbq; obtain ⟨chbq, fhbq, shbq⟩ := bfacts2 hbq; (try simp at shbq)) | (refine wp_region_wext (by kernel_rfl) (by kernel_rfl) ?_; (repeat (go_big_quiet_step (first | (go_at_call 44; with_reducible refine calls_wext (calls_bool (IsRing_any _ _ _ hn hn') HR.out)) | (go_at_call 50; with_reducible refine calls_wext_same (calls_bool (isValue_any _ _) HV.out)) | (go_at_call 68; with_reducible refine calls_wext_same (valuation_any _ _ _ hz1 (by omega) (by omega) h1.1 (by omega))) | (go_at_call 69; with_reducible refine calls_wext_same (power_any _ _ _ (by omega) (by rw [Int.toNat_natCast]; omega) (by rw [Int.toNat_natCast]; omega))) | (go_at_call 45; with_reducible refine calls_wext (modulus_any _ _ _ HR.out)) | (go_at_call 51; with_reducible refine calls_wext_same (mod_any _ _ _ (by omega) (by omega)))))); refine wpQuiet_nil ?_; intro w1_hbq hbq; replace hbq := below_of_wext hbq; obtain ⟨chbq, fhbq, shbq⟩ := bfacts2 hbq; (try simp at shbq)))
        refine bodyPost_ret (v := .tuple #[.agg #[.int .i64 p, .int .i64 (vp p n), .int .i64 (n.tdiv (p ^ vp p n) % p ^ k.toNat), .int .i64 k], .int .i64 0]) (by simp [results, Try.results32, go_sem, ↓IntWalk.iteOmega, alloc_ite, set_ite, *]) rfl ?_
        exact ⟨by simp [ok, rp, rv, ru, rk, code, HR.out, HV.out, HZ.out, hq.out.2.2], (by repeat (first | exact Below.refl _ _ | exact below_box _ | refine Below.drew ?_ | refine Below.setCell ?_ (by first | (simp; done) | (simp; omega)) _ | (refine below_step (by assumption) (by first | omega | (simp; done) | (simp; omega)) ?_) | (refine Below.alloc ?_ (by first | omega | (simp; done) | (simp; omega)) _)))⟩
      · have HZ := Lib.hid hz; clear hz
        have hz0 : (n == 0) = true := by have := HZ.out; simpa using this
        go_enter Try.func32, Try.ntmps32
        go_wp2_with (first | (go_at_call 44; ((with_reducible refine (calls_bool (IsRing_any _ _ _ hn hn') HR.out).mono ?_); rintro e w1_hb0 ⟨rfl, hb0⟩; obtain ⟨chb0, fhb0, shb0⟩ := bfacts2 hb0; (try simp at shb0))) | (go_at_call 50; ((with_reducible refine (calls_bool (isValue_any _ _) HV.out).mono ?_); rintro e w' ⟨rfl, rfl⟩)) | (refine wp_region_wext (by kernel_rfl) (by kernel_rfl) ?_; (repeat (go_big_quiet_step (first | (go_at_call 44; with_reducible refine calls_wext (calls_bool (IsRing_any _ _ _ hn hn') HR.out)) | (go_at_call 50; with_reducible refine calls_wext_same (calls_bool (isValue_any _ _) HV.out))))); refine wpQuiet_nil ?_; intro w1_hbq hbq; replace hbq := below_of_wext hbq; obtain ⟨chbq, fhbq, shbq⟩ := bfacts2 hbq; (try simp at shbq)))
        refine bodyPost_ret (v := .tuple #[.agg #[.int .i64 0, .int .i64 0, .int .i64 0, .int .i64 0], .int .i64 2]) (by simp [results, Try.results32, go_sem, ↓IntWalk.iteOmega, alloc_ite, set_ite, *]) rfl ?_
        exact ⟨by simp [ok, rp, rv, ru, rk, code, HR.out, HV.out, HZ.out], (by repeat (first | exact Below.refl _ _ | exact below_box _ | refine Below.drew ?_ | refine Below.setCell ?_ (by first | (simp; done) | (simp; omega)) _ | (refine below_step (by assumption) (by first | omega | (simp; done) | (simp; omega)) ?_) | (refine Below.alloc ?_ (by first | omega | (simp; done) | (simp; omega)) _)))⟩
    · have HV := Lib.hid hv; clear hv
      go_enter Try.func32, Try.ntmps32
      go_wp2_with (first | (go_at_call 44; ((with_reducible refine (calls_bool (IsRing_any _ _ _ hn hn') HR.out).mono ?_); rintro e w1_hb0 ⟨rfl, hb0⟩; obtain ⟨chb0, fhb0, shb0⟩ := bfacts2 hb0; (try simp at shb0))) | (go_at_call 50; ((with_reducible refine (calls_bool (isValue_any _ _) HV.out).mono ?_); rintro e w' ⟨rfl, rfl⟩)) | (refine wp_region_wext (by kernel_rfl) (by kernel_rfl) ?_; (repeat (go_big_quiet_step (first | (go_at_call 44; with_reducible refine calls_wext (calls_bool (IsRing_any _ _ _ hn hn') HR.out)) | (go_at_call 50; with_reducible refine calls_wext_same (calls_bool (isValue_any _ _) HV.out))))); refine wpQuiet_nil ?_; intro w1_hbq hbq; replace hbq := below_of_wext hbq; obtain ⟨chbq, fhbq, shbq⟩ := bfacts2 hbq; (try simp at shbq)))
      refine bodyPost_ret (v := .tuple #[.agg #[.int .i64 0, .int .i64 0, .int .i64 0, .int .i64 0], .int .i64 2]) (by simp [results, Try.results32, go_sem, ↓IntWalk.iteOmega, alloc_ite, set_ite, *]) rfl ?_
      exact ⟨by simp [ok, rp, rv, ru, rk, code, HR.out, HV.out], (by repeat (first | exact Below.refl _ _ | exact below_box _ | refine Below.drew ?_ | refine Below.setCell ?_ (by first | (simp; done) | (simp; omega)) _ | (refine below_step (by assumption) (by first | omega | (simp; done) | (simp; omega)) ?_) | (refine Below.alloc ?_ (by first | omega | (simp; done) | (simp; omega)) _)))⟩
  · have HR := Lib.hid hr; clear hr
    go_enter Try.func32, Try.ntmps32
    go_wp2_with (first | (go_at_call 44; ((with_reducible refine (calls_bool (IsRing_any _ _ _ hn hn') HR.out).mono ?_); rintro e w1_hb0 ⟨rfl, hb0⟩; obtain ⟨chb0, fhb0, shb0⟩ := bfacts2 hb0; (try simp at shb0))) | (refine wp_region_wext (by kernel_rfl) (by kernel_rfl) ?_; (repeat (go_big_quiet_step (first | (go_at_call 44; with_reducible refine calls_wext (calls_bool (IsRing_any _ _ _ hn hn') HR.out))))); refine wpQuiet_nil ?_; intro w1_hbq hbq; replace hbq := below_of_wext hbq; obtain ⟨chbq, fhbq, shbq⟩ := bfacts2 hbq; (try simp at shbq)))
    refine bodyPost_ret (v := .tuple #[.agg #[.int .i64 0, .int .i64 0, .int .i64 0, .int .i64 0], .int .i64 1]) (by simp [results, Try.results32, go_sem, ↓IntWalk.iteOmega, alloc_ite, set_ite, *]) rfl ?_
    exact ⟨by simp [ok, rp, rv, ru, rk, code, HR.out], (by repeat (first | exact Below.refl _ _ | exact below_box _ | refine Below.drew ?_ | refine Below.setCell ?_ (by first | (simp; done) | (simp; omega)) _ | (refine below_step (by assumption) (by first | omega | (simp; done) | (simp; omega)) ?_) | (refine Below.alloc ?_ (by first | omega | (simp; done) | (simp; omega)) _)))⟩

set_option maxHeartbeats 1000000 in
theorem spec_any (p n k : Int) (hn : k ≤ 9223372036854775807) (hn' : -9223372036854775808 ≤ k) (w : World) :
    Calls Try.prog 31 #[.int .i64 p, .int .i64 n, .int .i64 k] w fun e w' => e = .returned (.tuple #[.agg #[.int .i64 (rp p n k), .int .i64 (rv p n k), .int .i64 (ru p n k), .int .i64 (rk p n k)], .int .i64 (code p n k)]) ∧ Below w.heap.size w w' := by
  rcases Bool.eq_false_or_eq_true (ringB p k) with hr | hr
  · have HR := Lib.hid hr; clear hr
    rcases Bool.eq_false_or_eq_true (inB n (-1000000000000) 1000000000000) with hv | hv
    · have HV := Lib.hid hv; clear hv
      rcases Bool.eq_false_or_eq_true ((n != 0)) with hz | hz
      · have HZ := Lib.hid hz; clear hz
        have hz0 : (n == 0) = false := by have := HZ.out; simpa using this
        have hz1 : n ≠ 0 := by simpa using hz0
        obtain ⟨h1, h2, h3⟩ := ring_bd HR.out
        have hv1 := inB_iff.1 HV.out
        have hP := vp_pow_le h1.1 hz1
        have hV := vp_le h1.1 hz1
        have hq := Lib.hid (vp_spec h1.1 hz1)
        have HB : ∀ a : Nat, a ≤ vp p n → (n / p ^ vp p n * p ^ a).natAbs ≤ n.natAbs := fun a ha => quo_bd h1.1 hz1 ha
        have HB := Lib.hid HB
        go_enter Try.func31, Try.ntmps31
        go_wp2_with (first | (go_at_call 42; ((with_reducible refine (calls_bool (specIsRing_any _ _ _ hn hn') HR.out).mono ?_); rintro e w1_hb0 ⟨rfl, hb0⟩; obtain ⟨chb0, fhb0, shb0⟩ := bfacts hb0; (try have l0hb0 : w.heap.size < w1_hb0.heap.size := (by first | (simp at shb0; omega) | omega)); (try have l1hb0 : w.heap.size + 1 < w1_hb0.heap.size := (by first | (simp at shb0; omega) | omega)))) | (go_at_call 48; ((with_reducible refine (calls_bool (l01Is_any _ _) HV.out).mono ?_); rintro e w' ⟨rfl, rfl⟩)) | (go_at_call 67; ((with_reducible refine (l01Valuation_any _ _ _ hz1 (by omega) (by omega) h1.1 (by omega)).mono ?_); rintro e w' ⟨rfl, rfl⟩)) | (refine wp_region_wext (by kernel_rfl) (by kernel_rfl) ?_; (repeat (go_big_quiet_step (first | (go_at_call 42; with_reducible refine calls_wext (calls_bool (specIsRing_any _ _ _ hn hn') HR.out)) | (go_at_call 48; with_reducible refine calls_wext_same (calls_bool (l01Is_any _ _) HV.out)) | (go_at_call 67; with_reducible refine calls_wext_same (l01Valuation_any _ _ _ hz1 (by omega) (by omega) h1.1 (by omega)))))); refine wpQuiet_nil ?_; intro w1_hbq hbq; replace hbq := below_of_wext hbq; obtain ⟨chbq, fhbq, shbq⟩ := bfacts hbq; (try have l0hbq : w.heap.size < w1_hbq.heap.size := (by first | (simp at shbq; omega) | omega)); (try have l1hbq : w.heap.size + 1 < w1_hbq.heap.size := (by first | (simp at shbq; omega) | omega))))
        go_loop [1, 9] (fun b i => ∃ j : Nat, i = .int .i64 j ∧ j ≤ vp p n ∧ b = .int .i64 (n / p ^ vp p n * p ^ (vp p n - j))) (fun _ i => vp p n - (intOf i).toNat)
        case atStart => exact ⟨0, rfl, by omega, vint (by rw [Nat.sub_zero]; exact hq.out.1)⟩
        case round =>
          obtain ⟨j, rfl, hj, rfl⟩ := hrel
          have b1 := HB.out (vp p n - j) (by omega)
          by_cases hlt : j < vp p n
          · have b2 := HB.out (vp p n - (j + 1)) (by omega)
            have st : (n / p ^ vp p n * p ^ (vp p n - j)).tdiv p = n / p ^ vp p n * p ^ (vp p n - (j + 1)) := by
              rw [show vp p n - j = vp p n - (j + 1) + 1 by omega]; exact quo_step h1.1 _
            obtain ⟨c1, c2⟩ : -1000000000000 ≤ (n / p ^ vp p n * p ^ (vp p n - j)).tdiv p ∧ (n / p ^ vp p n * p ^ (vp p n - j)).tdiv p ≤ 1000000000000 := by rw [st]; omega
            have ST := Lib.hid st; clear st
            go_wp2
            go_round
            case rel => exact ⟨j + 1, by go_num, by omega, vint ST.out⟩
            case measure => simp [intOf]; omega
          · have hx := Lib.hid (show n / p ^ vp p n * p ^ (vp p n - j) = n / p ^ vp p n by rw [show vp p n - j = 0 by omega, Int.pow_zero, Int.mul_one])
            go_wp2_with (first | (go_at_call 43; ((with_reducible refine (l02Modulus_ring _ _ _ HR.out).mono ?_); rintro e w' ⟨rfl, rfl⟩)) | (go_at_call 49; ((with_reducible refine (l01Mod_any _ _ _ (by omega) (by omega)).mono ?_); rintro e w' ⟨rfl, rfl⟩)) | (refine wp_region_wext (by kernel_rfl) (by kernel_rfl) ?_; (repeat (go_big_quiet_step (first | (go_at_call 43; with_reducible refine calls_wext_same (l02Modulus_ring _ _ _ HR.out)) | (go_at_call 49; with_reducible refine calls_wext_same (l01Mod_any _ _ _ (by omega) (by omega)))))); refine wpQuiet_nil ?_; intro w1_hbq hbq; replace hbq := below_of_wext hbq; obtain ⟨chbq, fhbq, shbq⟩ := bfacts2 hbq; (try simp at shbq)))
            refine bodyPost_ret (v := .tuple #[.agg #[.int .i64 p, .int .i64 (vp p n), .int .i64 (n / p ^ vp p n * p ^ (vp p n - j) % p ^ k.toNat), .int .i64 k], .int .i64 0]) (by simp [results, Try.results31, go_sem, ↓IntWalk.iteOmega, alloc_ite, set_ite, *]) rfl ?_
            exact ⟨by simp [ok, rp, rv, ru, rk, code, HR.out, HV.out, HZ.out, hx.out], (by repeat (first | exact Below.refl _ _ | exact below_box _ | refine Below.drew ?_ | refine Below.setCell ?_ (by first | (simp; done) | (simp; omega)) _ | (refine below_step (by assumption) (by first | omega | (simp; done) | (simp; omega)) ?_) | (refine Below.alloc ?_ (by first | omega | (simp; done) | (simp; omega)) _)))⟩
      · have HZ := Lib.hid hz; clear hz
        have hz0 : (n == 0) = true := by have := HZ.out; simpa using this
        go_enter Try.func31, Try.ntmps31
        go_wp2_with (first | (go_at_call 42; ((with_reducible refine (calls_bool (specIsRing_any _ _ _ hn hn') HR.out).mono ?_); rintro e w1_hb0 ⟨rfl, hb0⟩; obtain ⟨chb0, fhb0, shb0⟩ := bfacts2 hb0; (try simp at shb0))) | (go_at_call 48; ((with_reducible refine (calls_bool (l01Is_any _ _) HV.out).mono ?_); rintro e w' ⟨rfl, rfl⟩)) | (refine wp_region_wext (by kernel_rfl) (by kernel_rfl) ?_; (repeat (go_big_quiet_step (first | (go_at_call 42; with_reducible refine calls_wext (calls_bool (specIsRing_any _ _ _ hn hn') HR.out)) | (go_at_call 48; with_reducible refine calls_wext_same (calls_bool (l01Is_any _ _) HV.out))))); refine wpQuiet_nil ?_; intro w1_hbq hbq; replace hbq := below_of_wext hbq; obtain ⟨chbq, fhbq, shbq⟩ := bfacts2 hbq; (try simp at shbq)))
        refine bodyPost_ret (v := .tuple #[.agg #[.int .i64 0, .int .i64 0, .int .i64 0, .int .i64 0], .int .i64 2]) (by simp [results, Try.results31, go_sem, ↓IntWalk.iteOmega, alloc_ite, set_ite, *]) rfl ?_
        exact ⟨by simp [ok, rp, rv, ru, rk, code, HR.out, HV.out, HZ.out], (by repeat (first | exact Below.refl _ _ | exact below_box _ | refine Below.drew ?_ | refine Below.setCell ?_ (by first | (simp; done) | (simp; omega)) _ | (refine below_step (by assumption) (by first | omega | (simp; done) | (simp; omega)) ?_) | (refine Below.alloc ?_ (by first | omega | (simp; done) | (simp; omega)) _)))⟩
    · have HV := Lib.hid hv; clear hv
      go_enter Try.func31, Try.ntmps31
      go_wp2_with (first | (go_at_call 42; ((with_reducible refine (calls_bool (specIsRing_any _ _ _ hn hn') HR.out).mono ?_); rintro e w1_hb0 ⟨rfl, hb0⟩; obtain ⟨chb0, fhb0, shb0⟩ := bfacts2 hb0; (try simp at shb0))) | (go_at_call 48; ((with_reducible refine (calls_bool (l01Is_any _ _) HV.out).mono ?_); rintro e w' ⟨rfl, rfl⟩)) | (refine wp_region_wext (by kernel_rfl) (by kernel_rfl) ?_; (repeat (go_big_quiet_step (first | (go_at_call 42; with_reducible refine calls_wext (calls_bool (specIsRing_any _ _ _ hn hn') HR.out)) | (go_at_call 48; with_reducible refine calls_wext_same (calls_bool (l01Is_any _ _) HV.out))))); refine wpQuiet_nil ?_; intro w1_hbq hbq; replace hbq := below_of_wext hbq; obtain ⟨chbq, fhbq, shbq⟩ := bfacts2 hbq; (try simp at shbq)))
      refine bodyPost_ret (v := .tuple #[.agg #[.int .i64 0, .int .i64 0, .int .i64 0, .int .i64 0], .int .i64 2]) (by simp [results, Try.results31, go_sem, ↓IntWalk.iteOmega, alloc_ite, set_ite, *]) rfl ?_
      exact ⟨by simp [ok, rp, rv, ru, rk, code, HR.out, HV.out], (by repeat (first | exact Below.refl _ _ | exact below_box _ | refine Below.drew ?_ | refine Below.setCell ?_ (by first | (simp; done) | (simp; omega)) _ | (refine below_step (by assumption) (by first | omega | (simp; done) | (simp; omega)) ?_) | (refine Below.alloc ?_ (by first | omega | (simp; done) | (simp; omega)) _)))⟩
  · have HR := Lib.hid hr; clear hr
    go_enter Try.func31, Try.ntmps31
    go_wp2_with (first | (go_at_call 42; ((with_reducible refine (calls_bool (specIsRing_any _ _ _ hn hn') HR.out).mono ?_); rintro e w1_hb0 ⟨rfl, hb0⟩; obtain ⟨chb0, fhb0, shb0⟩ := bfacts2 hb0; (try simp at shb0))) | (refine wp_region_wext (by kernel_rfl) (by kernel_rfl) ?_; (repeat (go_big_quiet_step (first | (go_at_call 42; with_reducible refine calls_wext (calls_bool (specIsRing_any _ _ _ hn hn') HR.out))))); refine wpQuiet_nil ?_; intro w1_hbq hbq; replace hbq := below_of_wext hbq; obtain ⟨chbq, fhbq, shbq⟩ := bfacts2 hbq; (try simp at shbq)))
    refine bodyPost_ret (v := .tuple #[.agg #[.int .i64 0, .int .i64 0, .int .i64 0, .int .i64 0], .int .i64 1]) (by simp [results, Try.results31, go_sem, ↓IntWalk.iteOmega, alloc_ite, set_ite, *]) rfl ?_
    exact ⟨by simp [ok, rp, rv, ru, rk, code, HR.out], (by repeat (first | exact Below.refl _ _ | exact below_box _ | refine Below.drew ?_ | refine Below.setCell ?_ (by first | (simp; done) | (simp; omega)) _ | (refine below_step (by assumption) (by first | omega | (simp; done) | (simp; omega)) ?_) | (refine Below.alloc ?_ (by first | omega | (simp; done) | (simp; omega)) _)))⟩


theorem walk (a0 : Int) (a1 : Int) (a2 : Int) (w : World) (ha0 : -9223372036854775808 ≤ a0 ∧ a0 ≤ 9223372036854775807) (ha1 : -9223372036854775808 ≤ a1 ∧ a1 ≤ 9223372036854775807) (ha2 : -9223372036854775808 ≤ a2 ∧ a2 ≤ 9223372036854775807) :
    Calls Try.prog 10 #[.int .i64 a0, .int .i64 a1, .int .i64 a2] w fun e w' => e = .returned (.bool true) ∧ Below w.heap.size w w' := by
  have AL := alloc_ite
  go_enter Try.func10, Try.ntmps10
  go_wp2_with (first | (go_at_call 31; ((with_reducible refine (spec_any _ _ _ ha2.2 ha2.1 _).mono ?_); rintro e w1_hb0 ⟨rfl, hb0⟩; obtain ⟨chb0, fhb0, shb0⟩ := bfacts2 hb0; (try simp at shb0))) | (go_at_call 32; ((with_reducible refine (impl_any _ _ _ ha2.2 ha2.1 _).mono ?_); rintro e w1_hb1 ⟨rfl, hb1⟩; obtain ⟨chb1, fhb1, shb1⟩ := bfacts2 hb1; (try simp at shb1))) | (go_at_call 33; ((with_reducible refine (eqPadic_same _ _ _ _ _).mono ?_); rintro e w1_hb2 ⟨rfl, hb2⟩; obtain ⟨chb2, fhb2, shb2⟩ := bfacts2 hb2; (try simp at shb2))) | (refine wp_region_wext (by kernel_rfl) (by kernel_rfl) ?_; (repeat (go_big_quiet_step (first | (go_at_call 31; with_reducible refine calls_wext (spec_any _ _ _ ha2.2 ha2.1 _)) | (go_at_call 32; with_reducible refine calls_wext (impl_any _ _ _ ha2.2 ha2.1 _)) | (go_at_call 33; with_reducible refine calls_wext (eqPadic_same _ _ _ _ _))))); refine wpQuiet_nil ?_; intro w1_hbq hbq; replace hbq := below_of_wext hbq; obtain ⟨chbq, fhbq, shbq⟩ := bfacts2 hbq; (try simp at shbq)))
  go_ret
  exact ⟨rfl, (by repeat (first | exact Below.refl _ _ | exact below_box _ | refine Below.drew ?_ | refine Below.setCell ?_ (by first | (simp; done) | (simp; omega)) _ | (refine below_step (by assumption) (by first | omega | (simp; done) | (simp; omega)) ?_) | (refine Below.alloc ?_ (by first | omega | (simp; done) | (simp; omega)) _)))⟩

theorem own : ownKnob Try.prog.godebug = none := by kernel_rfl
theorem laidOut : laidOutB Try.prog = true := by kernel_rfl

set_option maxRecDepth 100000 in
theorem lifted (os : Os) (started : os.Started) (H : Type) (enc : TypeId × Value → H) :
    ReturnsInHanded {} Try.checked os 10 .any (Rows.fnExactMakePadicSpec.pre6 enc Try.prog Try.f10 Rows.fnExactMakePadicRow.domain false) (Rows.fnExactMakePadicSpec.post enc Try.prog Try.f10 false true false false) := by
  refine returnsInHanded_of_change (C := Try.checked) own started (by kernel_rfl) Try.func10
    (ChangeSpec.witness6 (enc := enc) (C := Try.checked) false ⟨#[], #[.int .i64 0, .int .i64 0, .int .i64 0], []⟩ 8 (by kernel_rfl) (by kernel_rfl) (by kernel_rfl) (by kernel_rfl)) ?_
  intro W base args ds gs before hval0 hW hcnd _
  have hval : ∀ (j : Nat) t v, Try.f10.params[j]? = some t → args[j]? = some v → Value.okWide Try.prog W .any base t v := hval0
  have hW' := hW
  obtain ⟨p, q, hA0, hV, rfl, hfz, hnd⟩ := hW
  have hA : DataW.TrodAll enc Try.prog W 0 (fun _ => true) true Try.f10.params.toList args.toList ds p := hA0
  rw [Try.params10] at hA hval
  obtain ⟨v0, vs0, d0, ds0, p0, q0, hargs, rfl, rfl, h0, r0⟩ := trodAll_cons hA
  obtain ⟨v1, vs1, d1, ds1, p1, q1, rfl, rfl, rfl, h1, r1⟩ := trodAll_cons r0
  obtain ⟨v2, vs2, d2, ds2, p2, q2, rfl, rfl, rfl, h2, r2⟩ := trodAll_cons r1
  obtain ⟨rfl, rfl, rfl⟩ := trodAll_nil r2
  obtain rfl : args = #[v0, v1, v2] := by cases args; simp_all
  obtain ⟨rfl, rfl⟩ := trodVars_none hV
  have k0 := h0
  have lt0 : ∀ x ∈ p0, x.block < W.heap.size := by obtain ⟨m, hm⟩ := k0; exact DataW.trod_lt m _ _ _ hm
  obtain ⟨a0, rfl, _, _, wf0⟩ := open_int Try.underlying2 (hval 0 2 v0 rfl rfl) h0
  have k1 := h1
  have lt1 : ∀ x ∈ p1, x.block < W.heap.size := by obtain ⟨m, hm⟩ := k1; exact DataW.trod_lt m _ _ _ hm
  obtain ⟨a1, rfl, _, _, wf1⟩ := open_int Try.underlying2 (hval 1 2 v1 rfl rfl) h1
  have k2 := h2
  have lt2 : ∀ x ∈ p2, x.block < W.heap.size := by obtain ⟨m, hm⟩ := k2; exact DataW.trod_lt m _ _ _ hm
  obtain ⟨a2, rfl, _, _, wf2⟩ := open_int Try.underlying2 (hval 2 2 v2 rfl rfl) h2
  clear hA0 hval0
  refine (walk a0 a1 a2 W (bounds_i64 wf0) (bounds_i64 wf1) (bounds_i64 wf2)).mono fun e W' ⟨he, bel⟩ => ?_
  subst he
  exact ⟨_, rfl, _, _, _, [], _, [], hW', trodAll_mk1 (shut_bool Try.underlying4 _), (trodAll_cons_mk (Below.trod laidOut (by kernel_rfl) (of_decide_eq_true (by kernel_rfl)) k0 bel lt0) (trodAll_cons_mk (Below.trod laidOut (by kernel_rfl) (of_decide_eq_true (by kernel_rfl)) k1 bel lt1) (trodAll_cons_mk (Below.trod laidOut (by kernel_rfl) (of_decide_eq_true (by kernel_rfl)) k2 bel lt2) trodAll_mk0))), rfl, bel.frame _, fun h => by cases h⟩

theorem over : Rows.fnExactMakePadicRow.holds Try.pinned (OpenSpec.ofChange Rows.fnExactMakePadicSpec) :=
  OpenClaim.holds_of_wide 10 Try.f10 rfl rfl rfl rfl rfl rfl rfl ⟨rfl, rfl, rfl, rfl, rfl⟩ rfl rfl rfl rfl rfl (by kernel_rfl) Try.func10 (by kernel_rfl)
    (of_decide_eq_true (by kernel_rfl)) (by unfold Func.isWrapper; first | (rw [if_pos (by decide +kernel)]; kernel_rfl) | (rw [if_neg (by decide +kernel)]; exact ⟨rfl, rfl⟩))
    (fun os started H enc _ => lifted os started H enc)

theorem proved : Rows.FnExactMakePadicSaid := over
#print axioms proved
end Go.Proofs.Ytmbkdcjgblgopaa.makePadic
