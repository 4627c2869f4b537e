/- 'laws.FnExactPowerOf' returns true for all arguments: the program's PowerOf and the reference's give the same. Conditions: none. -/
import Derived.Test.YtmbkdcjgblgopaaRows
import Derived.WalkKit
import Derived.ProofKit
import Derived.OpenShut
import Derived.ShutString
import Derived.ChangeOld
import Derived.Below
import Derived.Lib.SmallJoins
import Derived.Test.YtmbkdcjgblgopaaE
namespace Go.Proofs.Ytmbkdcjgblgopaa.powerOf
open Go.ChangeShapes Go.WideShapes Go.ChangeAt Go.RowKit
open Go.ChangeMaps (open_string shut_string)
set_option linter.unusedVariables false
set_option linter.unusedSimpArgs false

def val (p n a x : Int) : Int := if ringB p n then (if inB a 0 (p ^ n.toNat - 1) then (if inB x 0 1000000000000 then a ^ x.toNat % p ^ n.toNat else 0) else 0) else 0
def code (p n a x : Int) : Int := if ringB p n then (if inB a 0 (p ^ n.toNat - 1) then (if inB x 0 1000000000000 then 0 else 2) else 2) else 1
set_option maxHeartbeats 1000000 in
theorem spec_any (p n a x : Int) (hn : n ≤ 9223372036854775807) (hn' : -9223372036854775808 ≤ n) (w : World) :
    Calls Try.prog 29 #[.agg #[.int .i64 p, .int .i64 n], .int .i64 a, .int .i64 x] w fun e w' => e = .returned (.tuple #[.int .i64 (val p n a x), .int .i64 (code p n a x)]) ∧ Below w.heap.size w w' := by
  rcases Bool.eq_false_or_eq_true (ringB p n) with hr | hr
  · have HR := Lib.hid hr; clear hr
    rcases Bool.eq_false_or_eq_true (inB a 0 (p ^ n.toNat - 1)) with hu | hu
    · have HU := Lib.hid hu; clear hu
      rcases Bool.eq_false_or_eq_true (inB x 0 1000000000000) with he | he
      · have HE := Lib.hid he; clear he
        go_enter Try.func29, Try.ntmps29
        have hc := Lib.hid (show resCode p n a = 0 by simp [resCode, HR.out, HU.out])
        obtain ⟨h1, h2, h3⟩ := ring_bd HR.out
        have hu2 := inB_iff.1 HU.out
        have he2 := inB_iff.1 HE.out
        go_wp2_with (first | (go_at_call 62; ((with_reducible refine (calls_int (l02Code_any _ _ _ _ hn hn') hc.out).mono ?_); rintro e w1_hb0 ⟨rfl, hb0⟩; obtain ⟨chb0, fhb0, shb0⟩ := bfacts hb0; (try have l0hb0 : w.heap.size < w1_hb0.heap.size := (by first | (simp at shb0; omega) | omega)); (try have l1hb0 : w.heap.size + 1 < w1_hb0.heap.size := (by first | (simp at shb0; omega) | omega)))) | (go_at_call 53; ((with_reducible refine (calls_bool (l01In_any _ _ _ _) HE.out).mono ?_); rintro e w' ⟨rfl, rfl⟩)) | (go_at_call 43; ((with_reducible refine (l02Modulus_ring _ _ _ HR.out).mono ?_); rintro e w' ⟨rfl, rfl⟩)) | (go_at_call 63; ((with_reducible refine (l02Power_any _ _ _ _ ⟨by omega, by omega⟩ (by omega) (by omega) (by omega) (by omega)).mono ?_); rintro e w' ⟨rfl, rfl⟩)) | (refine wp_region_wext (by kernel_rfl) (by kernel_rfl) ?_; (repeat (go_big_quiet_step (first | (go_at_call 62; with_reducible refine calls_wext (calls_int (l02Code_any _ _ _ _ hn hn') hc.out)) | (go_at_call 53; with_reducible refine calls_wext_same (calls_bool (l01In_any _ _ _ _) HE.out)) | (go_at_call 43; with_reducible refine calls_wext_same (l02Modulus_ring _ _ _ HR.out)) | (go_at_call 63; with_reducible refine calls_wext_same (l02Power_any _ _ _ _ ⟨by omega, by omega⟩ (by omega) (by omega) (by omega) (by omega)))))); refine wpQuiet_nil ?_; intro w1_hbq hbq; replace hbq := below_of_wext hbq; obtain ⟨chbq, fhbq, shbq⟩ := bfacts hbq; (try have l0hbq : w.heap.size < w1_hbq.heap.size := (by first | (simp at shbq; omega) | omega)); (try have l1hbq : w.heap.size + 1 < w1_hbq.heap.size := (by first | (simp at shbq; omega) | omega))))
        go_ret2
        exact ⟨ret2 (by simp [val, HR.out, HU.out, HE.out]) (by simp [code, HR.out, HU.out, HE.out]), (by repeat (first | exact Below.refl _ _ | exact below_box _ | refine Below.drew ?_ | refine Below.setCell ?_ (by first | (simp; done) | (simp; omega)) _ | (refine below_step (by assumption) (by first | omega | (simp; done) | (simp; omega)) ?_) | (refine Below.alloc ?_ (by first | omega | (simp; done) | (simp; omega)) _)))⟩
      · have HE := Lib.hid he; clear he
        go_enter Try.func29, Try.ntmps29
        have hc := Lib.hid (show resCode p n a = 0 by simp [resCode, HR.out, HU.out])
        go_wp2_with (first | (go_at_call 62; ((with_reducible refine (calls_int (l02Code_any _ _ _ _ hn hn') hc.out).mono ?_); rintro e w1_hb0 ⟨rfl, hb0⟩; obtain ⟨chb0, fhb0, shb0⟩ := bfacts hb0; (try have l0hb0 : w.heap.size < w1_hb0.heap.size := (by first | (simp at shb0; omega) | omega)); (try have l1hb0 : w.heap.size + 1 < w1_hb0.heap.size := (by first | (simp at shb0; omega) | omega)))) | (go_at_call 53; ((with_reducible refine (calls_bool (l01In_any _ _ _ _) HE.out).mono ?_); rintro e w' ⟨rfl, rfl⟩)) | (refine wp_region_wext (by kernel_rfl) (by kernel_rfl) ?_; (repeat (go_big_quiet_step (first | (go_at_call 62; with_reducible refine calls_wext (calls_int (l02Code_any _ _ _ _ hn hn') hc.out)) | (go_at_call 53; with_reducible refine calls_wext_same (calls_bool (l01In_any _ _ _ _) HE.out))))); refine wpQuiet_nil ?_; intro w1_hbq hbq; replace hbq := below_of_wext hbq; obtain ⟨chbq, fhbq, shbq⟩ := bfacts hbq; (try have l0hbq : w.heap.size < w1_hbq.heap.size := (by first | (simp at shbq; omega) | omega)); (try have l1hbq : w.heap.size + 1 < w1_hbq.heap.size := (by first | (simp at shbq; omega) | omega))))
        go_ret2
        exact ⟨ret2 (by simp [val, HR.out, HU.out, HE.out]) (by simp [code, HR.out, HU.out, HE.out]), (by repeat (first | exact Below.refl _ _ | exact below_box _ | refine Below.drew ?_ | refine Below.setCell ?_ (by first | (simp; done) | (simp; omega)) _ | (refine below_step (by assumption) (by first | omega | (simp; done) | (simp; omega)) ?_) | (refine Below.alloc ?_ (by first | omega | (simp; done) | (simp; omega)) _)))⟩
    · have HU := Lib.hid hu; clear hu
      go_enter Try.func29, Try.ntmps29
      have hc := Lib.hid (show resCode p n a = 2 by simp [resCode, HR.out, HU.out])
      go_wp2_with (first | (go_at_call 62; ((with_reducible refine (calls_int (l02Code_any _ _ _ _ hn hn') hc.out).mono ?_); rintro e w1_hb0 ⟨rfl, hb0⟩; obtain ⟨chb0, fhb0, shb0⟩ := bfacts hb0; (try have l0hb0 : w.heap.size < w1_hb0.heap.size := (by first | (simp at shb0; omega) | omega)); (try have l1hb0 : w.heap.size + 1 < w1_hb0.heap.size := (by first | (simp at shb0; omega) | omega)))) | (refine wp_region_wext (by kernel_rfl) (by kernel_rfl) ?_; (repeat (go_big_quiet_step (first | (go_at_call 62; with_reducible refine calls_wext (calls_int (l02Code_any _ _ _ _ hn hn') hc.out))))); refine wpQuiet_nil ?_; intro w1_hbq hbq; replace hbq := below_of_wext hbq; obtain ⟨chbq, fhbq, shbq⟩ := bfacts hbq; (try have l0hbq : w.heap.size < w1_hbq.heap.size := (by first | (simp at shbq; omega) | omega)); (try have l1hbq : w.heap.size + 1 < w1_hbq.heap.size := (by first | (simp at shbq; omega) | omega))))
      go_ret2
      exact ⟨ret2 (by simp [val, HR.out, HU.out]) (by simp [code, HR.out, HU.out]), (by repeat (first | exact Below.refl _ _ | exact below_box _ | refine Below.drew ?_ | refine Below.setCell ?_ (by first | (simp; done) | (simp; omega)) _ | (refine below_step (by assumption) (by first | omega | (simp; done) | (simp; omega)) ?_) | (refine Below.alloc ?_ (by first | omega | (simp; done) | (simp; omega)) _)))⟩
  · have HR := Lib.hid hr; clear hr
    go_enter Try.func29, Try.ntmps29
    have hc := Lib.hid (show resCode p n a = 1 by simp [resCode, HR.out])
    go_wp2_with (first | (go_at_call 62; ((with_reducible refine (calls_int (l02Code_any _ _ _ _ hn hn') hc.out).mono ?_); rintro e w1_hb0 ⟨rfl, hb0⟩; obtain ⟨chb0, fhb0, shb0⟩ := bfacts hb0; (try have l0hb0 : w.heap.size < w1_hb0.heap.size := (by first | (simp at shb0; omega) | omega)); (try have l1hb0 : w.heap.size + 1 < w1_hb0.heap.size := (by first | (simp at shb0; omega) | omega)))) | (refine wp_region_wext (by kernel_rfl) (by kernel_rfl) ?_; (repeat (go_big_quiet_step (first | (go_at_call 62; with_reducible refine calls_wext (calls_int (l02Code_any _ _ _ _ hn hn') hc.out))))); refine wpQuiet_nil ?_; intro w1_hbq hbq; replace hbq := below_of_wext hbq; obtain ⟨chbq, fhbq, shbq⟩ := bfacts hbq; (try have l0hbq : w.heap.size < w1_hbq.heap.size := (by first | (simp at shbq; omega) | omega)); (try have l1hbq : w.heap.size + 1 < w1_hbq.heap.size := (by first | (simp at shbq; omega) | omega))))
    go_ret2
    exact ⟨ret2 (by simp [val, HR.out]) (by simp [code, HR.out]), (by repeat (first | exact Below.refl _ _ | exact below_box _ | refine Below.drew ?_ | refine Below.setCell ?_ (by first | (simp; done) | (simp; omega)) _ | (refine below_step (by assumption) (by first | omega | (simp; done) | (simp; omega)) ?_) | (refine Below.alloc ?_ (by first | omega | (simp; done) | (simp; omega)) _)))⟩

set_option maxHeartbeats 1000000 in
theorem impl_any (p n a x : Int) (hn : n ≤ 9223372036854775807) (hn' : -9223372036854775808 ≤ n) (w : World) :
    Calls Try.prog 30 #[.agg #[.int .i64 p, .int .i64 n], .int .i64 a, .int .i64 x] w fun e w' => e = .returned (.tuple #[.int .i64 (val p n a x), .int .i64 (code p n a x)]) ∧ Below w.heap.size w w' := by
  rcases Bool.eq_false_or_eq_true (ringB p n) with hr | hr
  · have HR := Lib.hid hr; clear hr
    rcases Bool.eq_false_or_eq_true (inB a 0 (p ^ n.toNat - 1)) with hu | hu
    · have HU := Lib.hid hu; clear hu
      rcases Bool.eq_false_or_eq_true (inB x 0 1000000000000) with he | he
      · have HE := Lib.hid he; clear he
        go_enter Try.func30, Try.ntmps30
        obtain ⟨h1, h2, h3⟩ := ring_bd HR.out
        have hu2 := inB_iff.1 HU.out
        have he2 := inB_iff.1 HE.out
        go_wp2_with (first | (go_at_call 44; ((with_reducible refine (calls_bool (IsRing_any _ _ _ hn hn') HR.out).mono ?_); rintro e w1_hb0 ⟨rfl, hb0⟩; obtain ⟨chb0, fhb0, shb0⟩ := bfacts hb0; (try have l0hb0 : w.heap.size < w1_hb0.heap.size := (by first | (simp at shb0; omega) | omega)); (try have l1hb0 : w.heap.size + 1 < w1_hb0.heap.size := (by first | (simp at shb0; omega) | omega)))) | (go_at_call 59; ((with_reducible refine (calls_bool (has_any _ _ _ _ HR.out) HU.out).mono ?_); rintro e w1_hb1 ⟨rfl, hb1⟩; obtain ⟨chb1, fhb1, shb1⟩ := bfacts hb1; (try have l0hb1 : w.heap.size < w1_hb1.heap.size := (by first | (simp at shb1; omega) | omega)); (try have l1hb1 : w.heap.size + 1 < w1_hb1.heap.size := (by first | (simp at shb1; omega) | omega)))) | (go_at_call 65; ((with_reducible refine (calls_bool (within_any _ _ _ _) HE.out).mono ?_); rintro e w' ⟨rfl, rfl⟩)) | (go_at_call 45; ((with_reducible refine (modulus_any _ _ _ HR.out).mono ?_); rintro e w1_hb3 ⟨rfl, hb3⟩; obtain ⟨chb3, fhb3, shb3⟩ := bfacts hb3; (try have l0hb3 : w.heap.size < w1_hb3.heap.size := (by first | (simp at shb3; omega) | omega)); (try have l1hb3 : w.heap.size + 1 < w1_hb3.heap.size := (by first | (simp at shb3; omega) | omega)))) | (go_at_call 66; ((with_reducible refine (powerMod_any _ _ _ _ ⟨by omega, by omega⟩ (by omega) (by omega) (by omega) (by omega)).mono ?_); rintro e w' ⟨rfl, rfl⟩)) | (refine wp_region_wext (by kernel_rfl) (by kernel_rfl) ?_; (repeat (go_big_quiet_step (first | (go_at_call 44; with_reducible refine calls_wext (calls_bool (IsRing_any _ _ _ hn hn') HR.out)) | (go_at_call 59; with_reducible refine calls_wext (calls_bool (has_any _ _ _ _ HR.out) HU.out)) | (go_at_call 65; with_reducible refine calls_wext_same (calls_bool (within_any _ _ _ _) HE.out)) | (go_at_call 45; with_reducible refine calls_wext (modulus_any _ _ _ HR.out)) | (go_at_call 66; with_reducible refine calls_wext_same (powerMod_any _ _ _ _ ⟨by omega, by omega⟩ (by omega) (by omega) (by omega) (by omega)))))); refine wpQuiet_nil ?_; intro w1_hbq hbq; replace hbq := below_of_wext hbq; obtain ⟨chbq, fhbq, shbq⟩ := bfacts hbq; (try have l0hbq : w.heap.size < w1_hbq.heap.size := (by first | (simp at shbq; omega) | omega)); (try have l1hbq : w.heap.size + 1 < w1_hbq.heap.size := (by first | (simp at shbq; omega) | omega))))
        go_ret2
        exact ⟨ret2 (by simp [val, HR.out, HU.out, HE.out]) (by simp [code, HR.out, HU.out, HE.out]), (by repeat (first | exact Below.refl _ _ | exact below_box _ | refine Below.drew ?_ | refine Below.setCell ?_ (by first | (simp; done) | (simp; omega)) _ | (refine below_step (by assumption) (by first | omega | (simp; done) | (simp; omega)) ?_) | (refine Below.alloc ?_ (by first | omega | (simp; done) | (simp; omega)) _)))⟩
      · have HE := Lib.hid he; clear he
        go_enter Try.func30, Try.ntmps30
        go_wp2_with (first | (go_at_call 44; ((with_reducible refine (calls_bool (IsRing_any _ _ _ hn hn') HR.out).mono ?_); rintro e w1_hb0 ⟨rfl, hb0⟩; obtain ⟨chb0, fhb0, shb0⟩ := bfacts hb0; (try have l0hb0 : w.heap.size < w1_hb0.heap.size := (by first | (simp at shb0; omega) | omega)); (try have l1hb0 : w.heap.size + 1 < w1_hb0.heap.size := (by first | (simp at shb0; omega) | omega)))) | (go_at_call 59; ((with_reducible refine (calls_bool (has_any _ _ _ _ HR.out) HU.out).mono ?_); rintro e w1_hb1 ⟨rfl, hb1⟩; obtain ⟨chb1, fhb1, shb1⟩ := bfacts hb1; (try have l0hb1 : w.heap.size < w1_hb1.heap.size := (by first | (simp at shb1; omega) | omega)); (try have l1hb1 : w.heap.size + 1 < w1_hb1.heap.size := (by first | (simp at shb1; omega) | omega)))) | (go_at_call 65; ((with_reducible refine (calls_bool (within_any _ _ _ _) HE.out).mono ?_); rintro e w' ⟨rfl, rfl⟩)) | (refine wp_region_wext (by kernel_rfl) (by kernel_rfl) ?_; (repeat (go_big_quiet_step (first | (go_at_call 44; with_reducible refine calls_wext (calls_bool (IsRing_any _ _ _ hn hn') HR.out)) | (go_at_call 59; with_reducible refine calls_wext (calls_bool (has_any _ _ _ _ HR.out) HU.out)) | (go_at_call 65; with_reducible refine calls_wext_same (calls_bool (within_any _ _ _ _) HE.out))))); refine wpQuiet_nil ?_; intro w1_hbq hbq; replace hbq := below_of_wext hbq; obtain ⟨chbq, fhbq, shbq⟩ := bfacts hbq; (try have l0hbq : w.heap.size < w1_hbq.heap.size := (by first | (simp at shbq; omega) | omega)); (try have l1hbq : w.heap.size + 1 < w1_hbq.heap.size := (by first | (simp at shbq; omega) | omega))))
        go_ret2
        exact ⟨ret2 (by simp [val, HR.out, HU.out, HE.out]) (by simp [code, HR.out, HU.out, HE.out]), (by repeat (first | exact Below.refl _ _ | exact below_box _ | refine Below.drew ?_ | refine Below.setCell ?_ (by first | (simp; done) | (simp; omega)) _ | (refine below_step (by assumption) (by first | omega | (simp; done) | (simp; omega)) ?_) | (refine Below.alloc ?_ (by first | omega | (simp; done) | (simp; omega)) _)))⟩
    · have HU := Lib.hid hu; clear hu
      go_enter Try.func30, Try.ntmps30
      go_wp2_with (first | (go_at_call 44; ((with_reducible refine (calls_bool (IsRing_any _ _ _ hn hn') HR.out).mono ?_); rintro e w1_hb0 ⟨rfl, hb0⟩; obtain ⟨chb0, fhb0, shb0⟩ := bfacts hb0; (try have l0hb0 : w.heap.size < w1_hb0.heap.size := (by first | (simp at shb0; omega) | omega)); (try have l1hb0 : w.heap.size + 1 < w1_hb0.heap.size := (by first | (simp at shb0; omega) | omega)))) | (go_at_call 59; ((with_reducible refine (calls_bool (has_any _ _ _ _ HR.out) HU.out).mono ?_); rintro e w1_hb1 ⟨rfl, hb1⟩; obtain ⟨chb1, fhb1, shb1⟩ := bfacts hb1; (try have l0hb1 : w.heap.size < w1_hb1.heap.size := (by first | (simp at shb1; omega) | omega)); (try have l1hb1 : w.heap.size + 1 < w1_hb1.heap.size := (by first | (simp at shb1; omega) | omega)))) | (refine wp_region_wext (by kernel_rfl) (by kernel_rfl) ?_; (repeat (go_big_quiet_step (first | (go_at_call 44; with_reducible refine calls_wext (calls_bool (IsRing_any _ _ _ hn hn') HR.out)) | (go_at_call 59; with_reducible refine calls_wext (calls_bool (has_any _ _ _ _ HR.out) HU.out))))); refine wpQuiet_nil ?_; intro w1_hbq hbq; replace hbq := below_of_wext hbq; obtain ⟨chbq, fhbq, shbq⟩ := bfacts hbq; (try have l0hbq : w.heap.size < w1_hbq.heap.size := (by first | (simp at shbq; omega) | omega)); (try have l1hbq : w.heap.size + 1 < w1_hbq.heap.size := (by first | (simp at shbq; omega) | omega))))
      go_ret2
      exact ⟨ret2 (by simp [val, HR.out, HU.out]) (by simp [code, HR.out, HU.out]), (by repeat (first | exact Below.refl _ _ | exact below_box _ | refine Below.drew ?_ | refine Below.setCell ?_ (by first | (simp; done) | (simp; omega)) _ | (refine below_step (by assumption) (by first | omega | (simp; done) | (simp; omega)) ?_) | (refine Below.alloc ?_ (by first | omega | (simp; done) | (simp; omega)) _)))⟩
  · have HR := Lib.hid hr; clear hr
    go_enter Try.func30, Try.ntmps30
    go_wp2_with (first | (go_at_call 44; ((with_reducible refine (calls_bool (IsRing_any _ _ _ hn hn') HR.out).mono ?_); rintro e w1_hb0 ⟨rfl, hb0⟩; obtain ⟨chb0, fhb0, shb0⟩ := bfacts hb0; (try have l0hb0 : w.heap.size < w1_hb0.heap.size := (by first | (simp at shb0; omega) | omega)); (try have l1hb0 : w.heap.size + 1 < w1_hb0.heap.size := (by first | (simp at shb0; omega) | omega)))) | (refine wp_region_wext (by kernel_rfl) (by kernel_rfl) ?_; (repeat (go_big_quiet_step (first | (go_at_call 44; with_reducible refine calls_wext (calls_bool (IsRing_any _ _ _ hn hn') HR.out))))); refine wpQuiet_nil ?_; intro w1_hbq hbq; replace hbq := below_of_wext hbq; obtain ⟨chbq, fhbq, shbq⟩ := bfacts hbq; (try have l0hbq : w.heap.size < w1_hbq.heap.size := (by first | (simp at shbq; omega) | omega)); (try have l1hbq : w.heap.size + 1 < w1_hbq.heap.size := (by first | (simp at shbq; omega) | omega))))
    go_ret2
    exact ⟨ret2 (by simp [val, HR.out]) (by simp [code, HR.out]), (by repeat (first | exact Below.refl _ _ | exact below_box _ | refine Below.drew ?_ | refine Below.setCell ?_ (by first | (simp; done) | (simp; omega)) _ | (refine below_step (by assumption) (by first | omega | (simp; done) | (simp; omega)) ?_) | (refine Below.alloc ?_ (by first | omega | (simp; done) | (simp; omega)) _)))⟩


theorem walk (a0x0 a0x1 : Int) (a1 : Int) (a2 : Int) (w : World) (ha0x0 : -9223372036854775808 ≤ a0x0 ∧ a0x0 ≤ 9223372036854775807) (ha0x1 : -9223372036854775808 ≤ a0x1 ∧ a0x1 ≤ 9223372036854775807) (ha1 : -9223372036854775808 ≤ a1 ∧ a1 ≤ 9223372036854775807) (ha2 : -9223372036854775808 ≤ a2 ∧ a2 ≤ 9223372036854775807) :
    Calls Try.prog 9 #[.agg #[.int .i64 a0x0, .int .i64 a0x1], .int .i64 a1, .int .i64 a2] w fun e w' => e = .returned (.bool true) ∧ Below w.heap.size w w' := by
  go_enter Try.func9, Try.ntmps9
  go_wp2_with (first | (go_at_call 16; ((with_reducible refine (toRing_any _ _ _).mono ?_); rintro e w1_hb0 ⟨rfl, hb0⟩; obtain ⟨chb0, fhb0, shb0⟩ := bfacts hb0; (try have l0hb0 : w.heap.size < w1_hb0.heap.size := (by first | (simp at shb0; omega) | omega)); (try have l1hb0 : w.heap.size + 1 < w1_hb0.heap.size := (by first | (simp at shb0; omega) | omega)))) | (go_at_call 29; ((with_reducible refine (spec_any _ _ _ _ ha0x1.2 ha0x1.1 _).mono ?_); rintro e w1_hb1 ⟨rfl, hb1⟩; obtain ⟨chb1, fhb1, shb1⟩ := bfacts hb1; (try have l0hb1 : w.heap.size < w1_hb1.heap.size := (by first | (simp at shb1; omega) | omega)); (try have l1hb1 : w.heap.size + 1 < w1_hb1.heap.size := (by first | (simp at shb1; omega) | omega)))) | (go_at_call 30; ((with_reducible refine (impl_any _ _ _ _ ha0x1.2 ha0x1.1 _).mono ?_); rintro e w1_hb2 ⟨rfl, hb2⟩; obtain ⟨chb2, fhb2, shb2⟩ := bfacts hb2; (try have l0hb2 : w.heap.size < w1_hb2.heap.size := (by first | (simp at shb2; omega) | omega)); (try have l1hb2 : w.heap.size + 1 < w1_hb2.heap.size := (by first | (simp at shb2; omega) | omega)))) | (refine wp_region_wext (by kernel_rfl) (by kernel_rfl) ?_; (repeat (go_big_quiet_step (first | (go_at_call 16; with_reducible refine calls_wext (toRing_any _ _ _)) | (go_at_call 29; with_reducible refine calls_wext (spec_any _ _ _ _ ha0x1.2 ha0x1.1 _)) | (go_at_call 30; with_reducible refine calls_wext (impl_any _ _ _ _ ha0x1.2 ha0x1.1 _))))); refine wpQuiet_nil ?_; intro w1_hbq hbq; replace hbq := below_of_wext hbq; obtain ⟨chbq, fhbq, shbq⟩ := bfacts hbq; (try have l0hbq : w.heap.size < w1_hbq.heap.size := (by first | (simp at shbq; omega) | omega)); (try have l1hbq : w.heap.size + 1 < w1_hbq.heap.size := (by first | (simp at shbq; omega) | omega))))
  go_ret
  exact ⟨rfl, (by repeat (first | exact Below.refl _ _ | exact below_box _ | refine Below.drew ?_ | refine Below.setCell ?_ (by first | (simp; done) | (simp; omega)) _ | (refine below_step (by assumption) (by first | omega | (simp; done) | (simp; omega)) ?_) | (refine Below.alloc ?_ (by first | omega | (simp; done) | (simp; omega)) _)))⟩

theorem own : ownKnob Try.prog.godebug = none := by kernel_rfl
theorem laidOut : laidOutB Try.prog = true := by kernel_rfl
theorem cells23 : Try.prog.cellsOf 23 = 2 := by kernel_rfl

set_option maxRecDepth 100000 in
theorem lifted (os : Os) (started : os.Started) (H : Type) (enc : TypeId × Value → H) :
    ReturnsInHanded {} Try.checked os 9 .any (Rows.fnExactPowerOfSpec.pre6 enc Try.prog Try.f9 Rows.fnExactPowerOfRow.domain false) (Rows.fnExactPowerOfSpec.post enc Try.prog Try.f9 false true false false) := by
  refine returnsInHanded_of_change (C := Try.checked) own started (by kernel_rfl) Try.func9
    (ChangeSpec.witness6 (enc := enc) (C := Try.checked) false ⟨#[], #[.agg #[.int .i64 0, .int .i64 0], .int .i64 0, .int .i64 0], []⟩ 8 (by kernel_rfl) (by kernel_rfl) (by kernel_rfl) (by kernel_rfl)) ?_
  intro W base args ds gs before hval0 hW hcnd _
  have hval : ∀ (j : Nat) t v, Try.f9.params[j]? = some t → args[j]? = some v → Value.okWide Try.prog W .any base t v := hval0
  have hW' := hW
  obtain ⟨p, q, hA0, hV, rfl, hfz, hnd⟩ := hW
  have hA : DataW.TrodAll enc Try.prog W 0 (fun _ => true) true Try.f9.params.toList args.toList ds p := hA0
  rw [Try.params9] at hA hval
  obtain ⟨v0, vs0, d0, ds0, p0, q0, hargs, rfl, rfl, h0, r0⟩ := trodAll_cons hA
  obtain ⟨v1, vs1, d1, ds1, p1, q1, rfl, rfl, rfl, h1, r1⟩ := trodAll_cons r0
  obtain ⟨v2, vs2, d2, ds2, p2, q2, rfl, rfl, rfl, h2, r2⟩ := trodAll_cons r1
  obtain ⟨rfl, rfl, rfl⟩ := trodAll_nil r2
  obtain rfl : args = #[v0, v1, v2] := by cases args; simp_all
  obtain ⟨rfl, rfl⟩ := trodVars_none hV
  have k0 := h0
  have lt0 : ∀ x ∈ p0, x.block < W.heap.size := by obtain ⟨m, hm⟩ := k0; exact DataW.trod_lt m _ _ _ hm
  obtain ⟨c0x0, c0x1, y0x0, y0x1, m0, rfl, _, _, hy0x0, hy0x1⟩ := Joins.open_agg2 Try.underlying23 (by kernel_rfl) cells23 (hval 0 23 v0 rfl rfl) h0
  obtain ⟨a0x0, e0x0, _, wf0x0⟩ := DataW.trod_int Try.underlying2 hy0x0
  simp at e0x0; subst e0x0
  obtain ⟨a0x1, e0x1, _, wf0x1⟩ := DataW.trod_int Try.underlying2 hy0x1
  simp at e0x1; subst e0x1
  have k1 := h1
  have lt1 : ∀ x ∈ p1, x.block < W.heap.size := by obtain ⟨m, hm⟩ := k1; exact DataW.trod_lt m _ _ _ hm
  obtain ⟨a1, rfl, _, _, wf1⟩ := open_int Try.underlying2 (hval 1 2 v1 rfl rfl) h1
  have k2 := h2
  have lt2 : ∀ x ∈ p2, x.block < W.heap.size := by obtain ⟨m, hm⟩ := k2; exact DataW.trod_lt m _ _ _ hm
  obtain ⟨a2, rfl, _, _, wf2⟩ := open_int Try.underlying2 (hval 2 2 v2 rfl rfl) h2
  clear hA0 hval0
  refine (walk a0x0 a0x1 a1 a2 W (bounds_i64 wf0x0) (bounds_i64 wf0x1) (bounds_i64 wf1) (bounds_i64 wf2)).mono fun e W' ⟨he, bel⟩ => ?_
  subst he
  exact ⟨_, rfl, _, _, _, [], _, [], hW', trodAll_mk1 (shut_bool Try.underlying4 _), (trodAll_cons_mk (Below.trod laidOut (by kernel_rfl) (of_decide_eq_true (by kernel_rfl)) k0 bel lt0) (trodAll_cons_mk (Below.trod laidOut (by kernel_rfl) (of_decide_eq_true (by kernel_rfl)) k1 bel lt1) (trodAll_cons_mk (Below.trod laidOut (by kernel_rfl) (of_decide_eq_true (by kernel_rfl)) k2 bel lt2) trodAll_mk0))), rfl, bel.frame _, fun h => by cases h⟩

theorem over : Rows.fnExactPowerOfRow.holds Try.pinned (OpenSpec.ofChange Rows.fnExactPowerOfSpec) :=
  OpenClaim.holds_of_wide 9 Try.f9 rfl rfl rfl rfl rfl rfl rfl ⟨rfl, rfl, rfl, rfl, rfl⟩ rfl rfl rfl rfl rfl (by kernel_rfl) Try.func9 (by kernel_rfl)
    (of_decide_eq_true (by kernel_rfl)) (by unfold Func.isWrapper; first | (rw [if_pos (by decide +kernel)]; kernel_rfl) | (rw [if_neg (by decide +kernel)]; exact ⟨rfl, rfl⟩))
    (fun os started H enc _ => lifted os started H enc)

theorem proved : Rows.FnExactPowerOfSaid := over
#print axioms proved
end Go.Proofs.Ytmbkdcjgblgopaa.powerOf
