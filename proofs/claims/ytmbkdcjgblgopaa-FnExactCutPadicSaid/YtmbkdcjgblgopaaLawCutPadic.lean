/- 'laws.FnExactCutPadic' returns true for all arguments: the program's CutPadic and the reference's give the same. Conditions: none. -/
import Derived.Test.YtmbkdcjgblgopaaRows
import Derived.WalkKit
import Derived.ProofKit
import Derived.OpenShut
import Derived.ShutString
import Derived.ChangeOld
import Derived.Below
import Derived.Lib.SmallJoins
import Derived.Test.YtmbkdcjgblgopaaE
import Derived.Test.YtmbkdcjgblgopaaF
namespace Go.Proofs.Ytmbkdcjgblgopaa.cutPadic
open Go.ChangeShapes Go.WideShapes Go.ChangeAt Go.RowKit
open Go.ChangeMaps (open_string shut_string)
set_option linter.unusedVariables false
set_option linter.unusedSimpArgs false

def ok (p v u n k : Int) : Bool := padicB p v u n && inB k 1 n
def rp (p v u n k : Int) : Int := if ok p v u n k then p else 0
def rv (p v u n k : Int) : Int := if ok p v u n k then v else 0
def ru (p v u n k : Int) : Int := if ok p v u n k then u % p ^ k.toNat else 0
def rk (p v u n k : Int) : Int := if ok p v u n k then k else 0
def code (p v u n k : Int) : Int := if padicB p v u n then (if inB k 1 n then 0 else 2) else 1
theorem cut_pow {p v u n k : Int} (h : padicB p v u n = true) (h1 : 1 ≤ k) (h2 : k ≤ n) : 1 ≤ p ^ k.toNat ∧ p ^ k.toNat ≤ 1000000000 := by
  obtain ⟨a1, a2, a3⟩ := padic_iff.1 h
  have a4 := small_bd a1
  refine ⟨pow_pos' (by omega) _, ?_⟩
  rcases a3 with a3 | a3
  · omega
  · have := ring_bd a3.2.1
    have := pow_mono (show 1 ≤ p by omega) (show k.toNat ≤ n.toNat by omega)
    omega

set_option maxHeartbeats 1000000 in
theorem spec_any (p v u n : Int) (k : Int) (hn : n ≤ 9223372036854775807) (hn' : -9223372036854775808 ≤ n) (w : World) :
    Calls Try.prog 36 #[.agg #[.int .i64 p, .int .i64 v, .int .i64 u, .int .i64 n], .int .i64 k] w fun e w' => e = .returned (.tuple #[.agg #[.int .i64 (rp p v u n k), .int .i64 (rv p v u n k), .int .i64 (ru p v u n k), .int .i64 (rk p v u n k)], .int .i64 (code p v u n k)]) ∧ Below w.heap.size w w' := by
  rcases Bool.eq_false_or_eq_true (padicB p v u n) with hp | hp
  · have HP := Lib.hid hp; clear hp
    rcases Bool.eq_false_or_eq_true (inB k 1 n) with hk | hk
    · have HK := Lib.hid hk; clear hk
      go_enter Try.func36, Try.ntmps36
      obtain ⟨b1, b2, b3, b4⟩ := padic_bd HP.out
      have hk1 := inB_iff.1 HK.out
      have hQ := cut_pow HP.out hk1.1 hk1.2
      have hP0 : ¬ p ^ k.toNat = 0 := by omega
      have hrem := emod_bd u (p ^ k.toNat) hQ.1
      go_wp2_with (first | (go_at_call 22; ((with_reducible refine (calls_bool (specIsPadic_any _ _ _ _ _ hn hn') HP.out).mono ?_); rintro e w1_hb0 ⟨rfl, hb0⟩; obtain ⟨chb0, fhb0, shb0⟩ := bfacts hb0; (try have l0hb0 : w.heap.size < w1_hb0.heap.size := (by first | (simp at shb0; omega) | omega)); (try have l1hb0 : w.heap.size + 1 < w1_hb0.heap.size := (by first | (simp at shb0; omega) | omega)))) | (go_at_call 53; ((with_reducible refine (calls_bool (l01In_any _ _ _ _) HK.out).mono ?_); rintro e w' ⟨rfl, rfl⟩)) | (go_at_call 43; ((with_reducible refine (l02Modulus_pow _ _ _ b1 (by omega) (by omega) hQ.2).mono ?_); rintro e w' ⟨rfl, rfl⟩)) | (refine wp_region_wext_tail 13 (by kernel_rfl) (by kernel_rfl) ?_; simp only [List.take_succ_cons, List.take_zero, List.drop_succ_cons, List.drop_zero]; (repeat (go_big_quiet_step (first | (go_at_call 22; with_reducible refine calls_wext (calls_bool (specIsPadic_any _ _ _ _ _ hn hn') HP.out)) | (go_at_call 53; with_reducible refine calls_wext_same (calls_bool (l01In_any _ _ _ _) HK.out)) | (go_at_call 43; with_reducible refine calls_wext_same (l02Modulus_pow _ _ _ b1 (by omega) (by omega) hQ.2))))); refine wpQuiet_nil ?_; intro w1_hbq hbq; replace hbq := below_of_wext hbq; obtain ⟨chbq, fhbq, shbq⟩ := bfacts hbq; (try have l0hbq : w.heap.size < w1_hbq.heap.size := (by first | (simp at shbq; omega) | omega)); (try have l1hbq : w.heap.size + 1 < w1_hbq.heap.size := (by first | (simp at shbq; omega) | omega))) | (refine wp_region_wext (by kernel_rfl) (by kernel_rfl) ?_; (repeat (go_big_quiet_step (first | (go_at_call 22; with_reducible refine calls_wext (calls_bool (specIsPadic_any _ _ _ _ _ hn hn') HP.out)) | (go_at_call 53; with_reducible refine calls_wext_same (calls_bool (l01In_any _ _ _ _) HK.out)) | (go_at_call 43; with_reducible refine calls_wext_same (l02Modulus_pow _ _ _ b1 (by omega) (by omega) hQ.2))))); refine wpQuiet_nil ?_; intro w1_hbq hbq; replace hbq := below_of_wext hbq; obtain ⟨chbq, fhbq, shbq⟩ := bfacts hbq; (try have l0hbq : w.heap.size < w1_hbq.heap.size := (by first | (simp at shbq; omega) | omega)); (try have l1hbq : w.heap.size + 1 < w1_hbq.heap.size := (by first | (simp at shbq; omega) | omega))))
      refine bodyPost_ret (v := .tuple #[.agg #[.int .i64 p, .int .i64 v, .int .i64 (u % p ^ k.toNat), .int .i64 k], .int .i64 0]) (by simp [results, Try.results36, go_sem, *]) rfl ?_
      exact ⟨by simp [ok, rp, rv, ru, rk, code, HP.out, HK.out], (by repeat (first | exact Below.refl _ _ | exact below_box _ | refine Below.drew ?_ | refine Below.setCell ?_ (by first | (simp; done) | (simp; omega)) _ | (refine below_step (by assumption) (by first | omega | (simp; done) | (simp; omega)) ?_) | (refine Below.alloc ?_ (by first | omega | (simp; done) | (simp; omega)) _)))⟩
    · have HK := Lib.hid hk; clear hk
      go_enter Try.func36, Try.ntmps36
      go_wp2_with (first | (go_at_call 22; ((with_reducible refine (calls_bool (specIsPadic_any _ _ _ _ _ hn hn') HP.out).mono ?_); rintro e w1_hb0 ⟨rfl, hb0⟩; obtain ⟨chb0, fhb0, shb0⟩ := bfacts hb0; (try have l0hb0 : w.heap.size < w1_hb0.heap.size := (by first | (simp at shb0; omega) | omega)); (try have l1hb0 : w.heap.size + 1 < w1_hb0.heap.size := (by first | (simp at shb0; omega) | omega)))) | (go_at_call 53; ((with_reducible refine (calls_bool (l01In_any _ _ _ _) HK.out).mono ?_); rintro e w' ⟨rfl, rfl⟩)) | (refine wp_region_wext (by kernel_rfl) (by kernel_rfl) ?_; (repeat (go_big_quiet_step (first | (go_at_call 22; with_reducible refine calls_wext (calls_bool (specIsPadic_any _ _ _ _ _ hn hn') HP.out)) | (go_at_call 53; with_reducible refine calls_wext_same (calls_bool (l01In_any _ _ _ _) HK.out))))); refine wpQuiet_nil ?_; intro w1_hbq hbq; replace hbq := below_of_wext hbq; obtain ⟨chbq, fhbq, shbq⟩ := bfacts hbq; (try have l0hbq : w.heap.size < w1_hbq.heap.size := (by first | (simp at shbq; omega) | omega)); (try have l1hbq : w.heap.size + 1 < w1_hbq.heap.size := (by first | (simp at shbq; omega) | omega))))
      refine bodyPost_ret (v := .tuple #[.agg #[.int .i64 0, .int .i64 0, .int .i64 0, .int .i64 0], .int .i64 2]) (by simp [results, Try.results36, go_sem, *]) rfl ?_
      exact ⟨by simp [ok, rp, rv, ru, rk, code, HP.out, HK.out], (by repeat (first | exact Below.refl _ _ | exact below_box _ | refine Below.drew ?_ | refine Below.setCell ?_ (by first | (simp; done) | (simp; omega)) _ | (refine below_step (by assumption) (by first | omega | (simp; done) | (simp; omega)) ?_) | (refine Below.alloc ?_ (by first | omega | (simp; done) | (simp; omega)) _)))⟩
  · have HP := Lib.hid hp; clear hp
    go_enter Try.func36, Try.ntmps36
    go_wp2_with (first | (go_at_call 22; ((with_reducible refine (calls_bool (specIsPadic_any _ _ _ _ _ hn hn') HP.out).mono ?_); rintro e w1_hb0 ⟨rfl, hb0⟩; obtain ⟨chb0, fhb0, shb0⟩ := bfacts hb0; (try have l0hb0 : w.heap.size < w1_hb0.heap.size := (by first | (simp at shb0; omega) | omega)); (try have l1hb0 : w.heap.size + 1 < w1_hb0.heap.size := (by first | (simp at shb0; omega) | omega)))) | (refine wp_region_wext (by kernel_rfl) (by kernel_rfl) ?_; (repeat (go_big_quiet_step (first | (go_at_call 22; with_reducible refine calls_wext (calls_bool (specIsPadic_any _ _ _ _ _ hn hn') HP.out))))); refine wpQuiet_nil ?_; intro w1_hbq hbq; replace hbq := below_of_wext hbq; obtain ⟨chbq, fhbq, shbq⟩ := bfacts hbq; (try have l0hbq : w.heap.size < w1_hbq.heap.size := (by first | (simp at shbq; omega) | omega)); (try have l1hbq : w.heap.size + 1 < w1_hbq.heap.size := (by first | (simp at shbq; omega) | omega))))
    refine bodyPost_ret (v := .tuple #[.agg #[.int .i64 0, .int .i64 0, .int .i64 0, .int .i64 0], .int .i64 1]) (by simp [results, Try.results36, go_sem, *]) rfl ?_
    exact ⟨by simp [ok, rp, rv, ru, rk, code, HP.out], (by repeat (first | exact Below.refl _ _ | exact below_box _ | refine Below.drew ?_ | refine Below.setCell ?_ (by first | (simp; done) | (simp; omega)) _ | (refine below_step (by assumption) (by first | omega | (simp; done) | (simp; omega)) ?_) | (refine Below.alloc ?_ (by first | omega | (simp; done) | (simp; omega)) _)))⟩

set_option maxHeartbeats 1000000 in
theorem impl_any (p v u n : Int) (k : Int) (hn : n ≤ 9223372036854775807) (hn' : -9223372036854775808 ≤ n) (w : World) :
    Calls Try.prog 37 #[.agg #[.int .i64 p, .int .i64 v, .int .i64 u, .int .i64 n], .int .i64 k] w fun e w' => e = .returned (.tuple #[.agg #[.int .i64 (rp p v u n k), .int .i64 (rv p v u n k), .int .i64 (ru p v u n k), .int .i64 (rk p v u n k)], .int .i64 (code p v u n k)]) ∧ Below w.heap.size w w' := by
  rcases Bool.eq_false_or_eq_true (padicB p v u n) with hp | hp
  · have HP := Lib.hid hp; clear hp
    rcases Bool.eq_false_or_eq_true (inB k 1 n) with hk | hk
    · have HK := Lib.hid hk; clear hk
      go_enter Try.func37, Try.ntmps37
      obtain ⟨b1, b2, b3, b4⟩ := padic_bd HP.out
      have hk1 := inB_iff.1 HK.out
      have hQ := cut_pow HP.out hk1.1 hk1.2
      go_wp2_with (first | (go_at_call 24; ((with_reducible refine (calls_bool (IsPadic_any _ _ _ _ _ hn hn') HP.out).mono ?_); rintro e w1_hb0 ⟨rfl, hb0⟩; obtain ⟨chb0, fhb0, shb0⟩ := bfacts hb0; (try have l0hb0 : w.heap.size < w1_hb0.heap.size := (by first | (simp at shb0; omega) | omega)); (try have l1hb0 : w.heap.size + 1 < w1_hb0.heap.size := (by first | (simp at shb0; omega) | omega)))) | (go_at_call 65; ((with_reducible refine (calls_bool (within_any _ _ _ _) HK.out).mono ?_); rintro e w' ⟨rfl, rfl⟩)) | (go_at_call 72; ((with_reducible refine (cut_any _ _ _ _ _ _ b4.1 b4.2 (by omega) hQ).mono ?_); rintro e w1_hb2 ⟨rfl, hb2⟩; obtain ⟨chb2, fhb2, shb2⟩ := bfacts hb2; (try have l0hb2 : w.heap.size < w1_hb2.heap.size := (by first | (simp at shb2; omega) | omega)); (try have l1hb2 : w.heap.size + 1 < w1_hb2.heap.size := (by first | (simp at shb2; omega) | omega)))) | (refine wp_region_wext (by kernel_rfl) (by kernel_rfl) ?_; (repeat (go_big_quiet_step (first | (go_at_call 24; with_reducible refine calls_wext (calls_bool (IsPadic_any _ _ _ _ _ hn hn') HP.out)) | (go_at_call 65; with_reducible refine calls_wext_same (calls_bool (within_any _ _ _ _) HK.out)) | (go_at_call 72; with_reducible refine calls_wext (cut_any _ _ _ _ _ _ b4.1 b4.2 (by omega) hQ))))); refine wpQuiet_nil ?_; intro w1_hbq hbq; replace hbq := below_of_wext hbq; obtain ⟨chbq, fhbq, shbq⟩ := bfacts hbq; (try have l0hbq : w.heap.size < w1_hbq.heap.size := (by first | (simp at shbq; omega) | omega)); (try have l1hbq : w.heap.size + 1 < w1_hbq.heap.size := (by first | (simp at shbq; omega) | omega))))
      refine bodyPost_ret (v := .tuple #[.agg #[.int .i64 p, .int .i64 v, .int .i64 (u % p ^ k.toNat), .int .i64 k], .int .i64 0]) (by simp [results, Try.results37, go_sem, *]) rfl ?_
      exact ⟨by simp [ok, rp, rv, ru, rk, code, HP.out, HK.out], (by repeat (first | exact Below.refl _ _ | exact below_box _ | refine Below.drew ?_ | refine Below.setCell ?_ (by first | (simp; done) | (simp; omega)) _ | (refine below_step (by assumption) (by first | omega | (simp; done) | (simp; omega)) ?_) | (refine Below.alloc ?_ (by first | omega | (simp; done) | (simp; omega)) _)))⟩
    · have HK := Lib.hid hk; clear hk
      go_enter Try.func37, Try.ntmps37
      go_wp2_with (first | (go_at_call 24; ((with_reducible refine (calls_bool (IsPadic_any _ _ _ _ _ hn hn') HP.out).mono ?_); rintro e w1_hb0 ⟨rfl, hb0⟩; obtain ⟨chb0, fhb0, shb0⟩ := bfacts hb0; (try have l0hb0 : w.heap.size < w1_hb0.heap.size := (by first | (simp at shb0; omega) | omega)); (try have l1hb0 : w.heap.size + 1 < w1_hb0.heap.size := (by first | (simp at shb0; omega) | omega)))) | (go_at_call 65; ((with_reducible refine (calls_bool (within_any _ _ _ _) HK.out).mono ?_); rintro e w' ⟨rfl, rfl⟩)) | (refine wp_region_wext (by kernel_rfl) (by kernel_rfl) ?_; (repeat (go_big_quiet_step (first | (go_at_call 24; with_reducible refine calls_wext (calls_bool (IsPadic_any _ _ _ _ _ hn hn') HP.out)) | (go_at_call 65; with_reducible refine calls_wext_same (calls_bool (within_any _ _ _ _) HK.out))))); refine wpQuiet_nil ?_; intro w1_hbq hbq; replace hbq := below_of_wext hbq; obtain ⟨chbq, fhbq, shbq⟩ := bfacts hbq; (try have l0hbq : w.heap.size < w1_hbq.heap.size := (by first | (simp at shbq; omega) | omega)); (try have l1hbq : w.heap.size + 1 < w1_hbq.heap.size := (by first | (simp at shbq; omega) | omega))))
      refine bodyPost_ret (v := .tuple #[.agg #[.int .i64 0, .int .i64 0, .int .i64 0, .int .i64 0], .int .i64 2]) (by simp [results, Try.results37, go_sem, *]) rfl ?_
      exact ⟨by simp [ok, rp, rv, ru, rk, code, HP.out, HK.out], (by repeat (first | exact Below.refl _ _ | exact below_box _ | refine Below.drew ?_ | refine Below.setCell ?_ (by first | (simp; done) | (simp; omega)) _ | (refine below_step (by assumption) (by first | omega | (simp; done) | (simp; omega)) ?_) | (refine Below.alloc ?_ (by first | omega | (simp; done) | (simp; omega)) _)))⟩
  · have HP := Lib.hid hp; clear hp
    go_enter Try.func37, Try.ntmps37
    go_wp2_with (first | (go_at_call 24; ((with_reducible refine (calls_bool (IsPadic_any _ _ _ _ _ hn hn') HP.out).mono ?_); rintro e w1_hb0 ⟨rfl, hb0⟩; obtain ⟨chb0, fhb0, shb0⟩ := bfacts hb0; (try have l0hb0 : w.heap.size < w1_hb0.heap.size := (by first | (simp at shb0; omega) | omega)); (try have l1hb0 : w.heap.size + 1 < w1_hb0.heap.size := (by first | (simp at shb0; omega) | omega)))) | (refine wp_region_wext (by kernel_rfl) (by kernel_rfl) ?_; (repeat (go_big_quiet_step (first | (go_at_call 24; with_reducible refine calls_wext (calls_bool (IsPadic_any _ _ _ _ _ hn hn') HP.out))))); refine wpQuiet_nil ?_; intro w1_hbq hbq; replace hbq := below_of_wext hbq; obtain ⟨chbq, fhbq, shbq⟩ := bfacts hbq; (try have l0hbq : w.heap.size < w1_hbq.heap.size := (by first | (simp at shbq; omega) | omega)); (try have l1hbq : w.heap.size + 1 < w1_hbq.heap.size := (by first | (simp at shbq; omega) | omega))))
    refine bodyPost_ret (v := .tuple #[.agg #[.int .i64 0, .int .i64 0, .int .i64 0, .int .i64 0], .int .i64 1]) (by simp [results, Try.results37, go_sem, *]) rfl ?_
    exact ⟨by simp [ok, rp, rv, ru, rk, code, HP.out], (by repeat (first | exact Below.refl _ _ | exact below_box _ | refine Below.drew ?_ | refine Below.setCell ?_ (by first | (simp; done) | (simp; omega)) _ | (refine below_step (by assumption) (by first | omega | (simp; done) | (simp; omega)) ?_) | (refine Below.alloc ?_ (by first | omega | (simp; done) | (simp; omega)) _)))⟩


theorem walk (a0x0 a0x1 a0x2 a0x3 : Int) (a1 : Int) (w : World) (ha0x0 : -9223372036854775808 ≤ a0x0 ∧ a0x0 ≤ 9223372036854775807) (ha0x1 : -9223372036854775808 ≤ a0x1 ∧ a0x1 ≤ 9223372036854775807) (ha0x2 : -9223372036854775808 ≤ a0x2 ∧ a0x2 ≤ 9223372036854775807) (ha0x3 : -9223372036854775808 ≤ a0x3 ∧ a0x3 ≤ 9223372036854775807) (ha1 : -9223372036854775808 ≤ a1 ∧ a1 ≤ 9223372036854775807) :
    Calls Try.prog 12 #[.agg #[.int .i64 a0x0, .int .i64 a0x1, .int .i64 a0x2, .int .i64 a0x3], .int .i64 a1] w fun e w' => e = .returned (.bool true) ∧ Below w.heap.size w w' := by
  have AL := alloc_ite
  go_enter Try.func12, Try.ntmps12
  go_wp2_with (first | (go_at_call 23; ((with_reducible refine (toPadic_any _ _ _ _ _).mono ?_); rintro e w1_hb0 ⟨rfl, hb0⟩; obtain ⟨chb0, fhb0, shb0⟩ := bfacts2 hb0; (try simp at shb0))) | (go_at_call 36; ((with_reducible refine (spec_any _ _ _ _ _ ha0x3.2 ha0x3.1 _).mono ?_); rintro e w1_hb1 ⟨rfl, hb1⟩; obtain ⟨chb1, fhb1, shb1⟩ := bfacts2 hb1; (try simp at shb1))) | (go_at_call 37; ((with_reducible refine (impl_any _ _ _ _ _ ha0x3.2 ha0x3.1 _).mono ?_); rintro e w1_hb2 ⟨rfl, hb2⟩; obtain ⟨chb2, fhb2, shb2⟩ := bfacts2 hb2; (try simp at shb2))) | (go_at_call 33; ((with_reducible refine (eqPadic_same _ _ _ _ _).mono ?_); rintro e w1_hb3 ⟨rfl, hb3⟩; obtain ⟨chb3, fhb3, shb3⟩ := bfacts2 hb3; (try simp at shb3))) | (refine wp_region_wext (by kernel_rfl) (by kernel_rfl) ?_; (repeat (go_big_quiet_step (first | (go_at_call 23; with_reducible refine calls_wext (toPadic_any _ _ _ _ _)) | (go_at_call 36; with_reducible refine calls_wext (spec_any _ _ _ _ _ ha0x3.2 ha0x3.1 _)) | (go_at_call 37; with_reducible refine calls_wext (impl_any _ _ _ _ _ ha0x3.2 ha0x3.1 _)) | (go_at_call 33; with_reducible refine calls_wext (eqPadic_same _ _ _ _ _))))); refine wpQuiet_nil ?_; intro w1_hbq hbq; replace hbq := below_of_wext hbq; obtain ⟨chbq, fhbq, shbq⟩ := bfacts2 hbq; (try simp at shbq)))
  go_ret
  exact ⟨rfl, (by repeat (first | exact Below.refl _ _ | exact below_box _ | refine Below.drew ?_ | refine Below.setCell ?_ (by first | (simp; done) | (simp; omega)) _ | (refine below_step (by assumption) (by first | omega | (simp; done) | (simp; omega)) ?_) | (refine Below.alloc ?_ (by first | omega | (simp; done) | (simp; omega)) _)))⟩

theorem own : ownKnob Try.prog.godebug = none := by kernel_rfl
theorem laidOut : laidOutB Try.prog = true := by kernel_rfl
theorem cells32 : Try.prog.cellsOf 32 = 4 := by kernel_rfl

set_option maxRecDepth 100000 in
theorem lifted (os : Os) (started : os.Started) (H : Type) (enc : TypeId × Value → H) :
    ReturnsInHanded {} Try.checked os 12 .any (Rows.fnExactCutPadicSpec.pre6 enc Try.prog Try.f12 Rows.fnExactCutPadicRow.domain false) (Rows.fnExactCutPadicSpec.post enc Try.prog Try.f12 false true false false) := by
  refine returnsInHanded_of_change (C := Try.checked) own started (by kernel_rfl) Try.func12
    (ChangeSpec.witness6 (enc := enc) (C := Try.checked) false ⟨#[], #[.agg #[.int .i64 0, .int .i64 0, .int .i64 0, .int .i64 0], .int .i64 0], []⟩ 8 (by kernel_rfl) (by kernel_rfl) (by kernel_rfl) (by kernel_rfl)) ?_
  intro W base args ds gs before hval0 hW hcnd _
  have hval : ∀ (j : Nat) t v, Try.f12.params[j]? = some t → args[j]? = some v → Value.okWide Try.prog W .any base t v := hval0
  have hW' := hW
  obtain ⟨p, q, hA0, hV, rfl, hfz, hnd⟩ := hW
  have hA : DataW.TrodAll enc Try.prog W 0 (fun _ => true) true Try.f12.params.toList args.toList ds p := hA0
  rw [Try.params12] at hA hval
  obtain ⟨v0, vs0, d0, ds0, p0, q0, hargs, rfl, rfl, h0, r0⟩ := trodAll_cons hA
  obtain ⟨v1, vs1, d1, ds1, p1, q1, rfl, rfl, rfl, h1, r1⟩ := trodAll_cons r0
  obtain ⟨rfl, rfl, rfl⟩ := trodAll_nil r1
  obtain rfl : args = #[v0, v1] := by cases args; simp_all
  obtain ⟨rfl, rfl⟩ := trodVars_none hV
  have k0 := h0
  have lt0 : ∀ x ∈ p0, x.block < W.heap.size := by obtain ⟨m, hm⟩ := k0; exact DataW.trod_lt m _ _ _ hm
  obtain ⟨c0x0, c0x1, c0x2, c0x3, y0x0, y0x1, y0x2, y0x3, m0, rfl, _, _, hy0x0, hy0x1, hy0x2, hy0x3⟩ := Joins.open_agg4 Try.underlying32 (by kernel_rfl) cells32 (hval 0 32 v0 rfl rfl) h0
  obtain ⟨a0x0, e0x0, _, wf0x0⟩ := DataW.trod_int Try.underlying2 hy0x0
  simp at e0x0; subst e0x0
  obtain ⟨a0x1, e0x1, _, wf0x1⟩ := DataW.trod_int Try.underlying2 hy0x1
  simp at e0x1; subst e0x1
  obtain ⟨a0x2, e0x2, _, wf0x2⟩ := DataW.trod_int Try.underlying2 hy0x2
  simp at e0x2; subst e0x2
  obtain ⟨a0x3, e0x3, _, wf0x3⟩ := DataW.trod_int Try.underlying2 hy0x3
  simp at e0x3; subst e0x3
  have k1 := h1
  have lt1 : ∀ x ∈ p1, x.block < W.heap.size := by obtain ⟨m, hm⟩ := k1; exact DataW.trod_lt m _ _ _ hm
  obtain ⟨a1, rfl, _, _, wf1⟩ := open_int Try.underlying2 (hval 1 2 v1 rfl rfl) h1
  clear hA0 hval0
  refine (walk a0x0 a0x1 a0x2 a0x3 a1 W (bounds_i64 wf0x0) (bounds_i64 wf0x1) (bounds_i64 wf0x2) (bounds_i64 wf0x3) (bounds_i64 wf1)).mono fun e W' ⟨he, bel⟩ => ?_
  subst he
  exact ⟨_, rfl, _, _, _, [], _, [], hW', trodAll_mk1 (shut_bool Try.underlying4 _), (trodAll_cons_mk (Below.trod laidOut (by kernel_rfl) (of_decide_eq_true (by kernel_rfl)) k0 bel lt0) (trodAll_cons_mk (Below.trod laidOut (by kernel_rfl) (of_decide_eq_true (by kernel_rfl)) k1 bel lt1) trodAll_mk0)), rfl, bel.frame _, fun h => by cases h⟩

theorem over : Rows.fnExactCutPadicRow.holds Try.pinned (OpenSpec.ofChange Rows.fnExactCutPadicSpec) :=
  OpenClaim.holds_of_wide 12 Try.f12 rfl rfl rfl rfl rfl rfl rfl ⟨rfl, rfl, rfl, rfl, rfl⟩ rfl rfl rfl rfl rfl (by kernel_rfl) Try.func12 (by kernel_rfl)
    (of_decide_eq_true (by kernel_rfl)) (by unfold Func.isWrapper; first | (rw [if_pos (by decide +kernel)]; kernel_rfl) | (rw [if_neg (by decide +kernel)]; exact ⟨rfl, rfl⟩))
    (fun os started H enc _ => lifted os started H enc)

theorem proved : Rows.FnExactCutPadicSaid := over
#print axioms proved
end Go.Proofs.Ytmbkdcjgblgopaa.cutPadic
