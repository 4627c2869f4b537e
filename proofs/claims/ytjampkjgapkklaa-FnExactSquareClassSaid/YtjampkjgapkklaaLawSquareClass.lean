/- 'laws.FnExactSquareClass' returns true for all arguments: the program's SquareClass and the reference's give the same. Conditions: none. -/
import Derived.Test.YtjampkjgapkklaaRows
import Derived.WalkKit
import Derived.ProofKit
import Derived.OpenShut
import Derived.ShutString
import Derived.ChangeOld
import Derived.Below
import Derived.Lib.SmallJoins
import Derived.Test.YtjampkjgapkklaaL
namespace Go.Proofs.Ytjampkjgapkklaa.squareClass
open Go.ChangeShapes Go.WideShapes Go.ChangeAt Go.RowKit
open Go.ChangeMaps (open_string shut_string)
set_option linter.unusedVariables false
set_option linter.unusedSimpArgs false

set_option maxHeartbeats 1000000 in
theorem impl_any (p a : Int) (w : World) :
    Calls Try.prog 22 #[.int .i64 p, .int .i64 a] w fun e w' => e = .returned (.tuple #[.int .i64 (val p a), .int .i64 (code p a)]) ∧ Below w.heap.size w w' := by
  rcases Bool.eq_false_or_eq_true (smallB p) with hs | hs
  · have HS := Lib.hid hs; clear hs
    rcases Bool.eq_false_or_eq_true (nzB a) with hz | hz
    · have HZ := Lib.hid hz; clear hz
      obtain ⟨ha, hz⟩ := nz_iff.1 HZ.out
      have hp := small_bd HS.out
      have hz' : (a != 0) = true := by simpa using hz
      go_enter Try.func22, Try.ntmps22
      go_wp2_with (first | (go_at_call 70; ((with_reducible refine (calls_bool (isSmallPrime_any _ _) HS.out).mono ?_); rintro e w' ⟨rfl, rfl⟩)) | (go_at_call 71; ((with_reducible refine (calls_bool (isNonzero_any _ _) HZ.out).mono ?_); rintro e w' ⟨rfl, rfl⟩)) | (refine wp_region_wext (by kernel_rfl) (by kernel_rfl) ?_; (repeat (go_big_quiet_step (first | (go_at_call 70; with_reducible refine calls_wext_same (calls_bool (isSmallPrime_any _ _) HS.out)) | (go_at_call 71; with_reducible refine calls_wext_same (calls_bool (isNonzero_any _ _) HZ.out))))); refine wpQuiet_nil ?_; intro w1_hbq hbq; replace hbq := below_of_wext hbq; obtain ⟨chbq, fhbq, shbq⟩ := bfacts2 hbq; (try simp at shbq)))
      go_loopw [6] (fun c wr => ∃ C : Int, c = .int .i64 C ∧ CInv p a C ∧ Below w.heap.size w wr) (fun c _ => (10000 - intOf c).toNat)
      case atStart => exact ⟨1, rfl, cInv_start HS.out hz, Below.refl _ _⟩
      case round =>
        obtain ⟨C, rfl, hinv, hbel⟩ := hrel
        have HI := Lib.hid hinv; clear hinv
        have hC : 1 ≤ C ∧ C ≤ 9312 := ⟨HI.out.1, HI.out.2.1⟩
        obtain ⟨⟨m1, m2⟩, m3⟩ := mul_bd ha hC hz
        have hsz := hbel.size
        rcases Bool.eq_false_or_eq_true (clsB p a C) with hb | hb
        · have HB := Lib.hid hb; clear hb
          have HB2 := Lib.hid (show sqB p (a * C) = true from HB.out)
          go_wp2_with (first | (go_at_call 72; ((with_reducible refine (calls_bool (isSquareOf_any _ _ _ hp m3 ⟨by omega, by omega⟩) HB2.out).mono ?_); rintro e w1_hb0 ⟨rfl, hb0⟩; obtain ⟨chb0, fhb0, shb0⟩ := bfacts2 hb0; (try simp at shb0))) | (refine wp_region_wext (by kernel_rfl) (by kernel_rfl) ?_; (repeat (go_big_quiet_step (first | (go_at_call 72; with_reducible refine calls_wext (calls_bool (isSquareOf_any _ _ _ hp m3 ⟨by omega, by omega⟩) HB2.out))))); refine wpQuiet_nil ?_; intro w1_hbq hbq; replace hbq := below_of_wext hbq; obtain ⟨chbq, fhbq, shbq⟩ := bfacts2 hbq; (try simp at shbq)))
          go_ret2
          exact ⟨ret2 (by rw [cInv_end HI.out HB.out]; simp [val, HS.out, HZ.out]) (by simp [code, HS.out, HZ.out]), (by repeat (first | assumption | exact Below.refl _ _ | exact below_box _ | refine Below.drew ?_ | refine Below.setCell ?_ (by first | (simp; done) | (simp; omega)) _ | (refine below_step (by assumption) (by first | omega | (simp; done) | (simp; omega)) ?_) | (refine Below.alloc ?_ (by first | omega | (simp; done) | (simp; omega)) _)))⟩
        · have HB := Lib.hid hb; clear hb
          have HB2 := Lib.hid (show sqB p (a * C) = false from HB.out)
          go_wp2_with (first | (go_at_call 72; ((with_reducible refine (calls_bool (isSquareOf_any _ _ _ hp m3 ⟨by omega, by omega⟩) HB2.out).mono ?_); rintro e w1_hb0 ⟨rfl, hb0⟩; obtain ⟨chb0, fhb0, shb0⟩ := bfacts2 hb0; (try simp at shb0))) | (refine wp_region_wext (by kernel_rfl) (by kernel_rfl) ?_; (repeat (go_big_quiet_step (first | (go_at_call 72; with_reducible refine calls_wext (calls_bool (isSquareOf_any _ _ _ hp m3 ⟨by omega, by omega⟩) HB2.out))))); refine wpQuiet_nil ?_; intro w1_hbq hbq; replace hbq := below_of_wext hbq; obtain ⟨chbq, fhbq, shbq⟩ := bfacts2 hbq; (try simp at shbq)))
          go_roundw
          case rel => exact ⟨C + 1, rfl, cInv_step HI.out HB.out, (by repeat (first | assumption | exact Below.refl _ _ | exact below_box _ | refine Below.drew ?_ | refine Below.setCell ?_ (by first | (simp; done) | (simp; omega)) _ | (refine below_step (by assumption) (by first | omega | (simp; done) | (simp; omega)) ?_) | (refine Below.alloc ?_ (by first | omega | (simp; done) | (simp; omega)) _)))⟩
          case measure => simp [intOf]; omega
    · have HZ := Lib.hid hz; clear hz
      go_enter Try.func22, Try.ntmps22
      go_wp2_with (first | (go_at_call 70; ((with_reducible refine (calls_bool (isSmallPrime_any _ _) HS.out).mono ?_); rintro e w' ⟨rfl, rfl⟩)) | (go_at_call 71; ((with_reducible refine (calls_bool (isNonzero_any _ _) HZ.out).mono ?_); rintro e w' ⟨rfl, rfl⟩)) | (refine wp_region_wext (by kernel_rfl) (by kernel_rfl) ?_; (repeat (go_big_quiet_step (first | (go_at_call 70; with_reducible refine calls_wext_same (calls_bool (isSmallPrime_any _ _) HS.out)) | (go_at_call 71; with_reducible refine calls_wext_same (calls_bool (isNonzero_any _ _) HZ.out))))); refine wpQuiet_nil ?_; intro w1_hbq hbq; replace hbq := below_of_wext hbq; obtain ⟨chbq, fhbq, shbq⟩ := bfacts2 hbq; (try simp at shbq)))
      go_ret2
      exact ⟨ret2 (by simp [val, HS.out, HZ.out]) (by simp [code, HS.out, HZ.out]), (by repeat (first | assumption | exact Below.refl _ _ | exact below_box _ | refine Below.drew ?_ | refine Below.setCell ?_ (by first | (simp; done) | (simp; omega)) _ | (refine below_step (by assumption) (by first | omega | (simp; done) | (simp; omega)) ?_) | (refine Below.alloc ?_ (by first | omega | (simp; done) | (simp; omega)) _)))⟩
  · have HS := Lib.hid hs; clear hs
    go_enter Try.func22, Try.ntmps22
    go_wp2_with (first | (go_at_call 70; ((with_reducible refine (calls_bool (isSmallPrime_any _ _) HS.out).mono ?_); rintro e w' ⟨rfl, rfl⟩)) | (refine wp_region_wext (by kernel_rfl) (by kernel_rfl) ?_; (repeat (go_big_quiet_step (first | (go_at_call 70; with_reducible refine calls_wext_same (calls_bool (isSmallPrime_any _ _) HS.out))))); refine wpQuiet_nil ?_; intro w1_hbq hbq; replace hbq := below_of_wext hbq; obtain ⟨chbq, fhbq, shbq⟩ := bfacts2 hbq; (try simp at shbq)))
    go_ret2
    exact ⟨ret2 (by simp [val, HS.out]) (by simp [code, HS.out]), (by repeat (first | assumption | exact Below.refl _ _ | exact below_box _ | refine Below.drew ?_ | refine Below.setCell ?_ (by first | (simp; done) | (simp; omega)) _ | (refine below_step (by assumption) (by first | omega | (simp; done) | (simp; omega)) ?_) | (refine Below.alloc ?_ (by first | omega | (simp; done) | (simp; omega)) _)))⟩

set_option maxHeartbeats 1000000 in
theorem spec_any (p a : Int) (w : World) :
    Calls Try.prog 21 #[.int .i64 p, .int .i64 a] w fun e w' => e = .returned (.tuple #[.int .i64 (val p a), .int .i64 (code p a)]) ∧ Below w.heap.size w w' := by
  rcases Bool.eq_false_or_eq_true (smallB p) with hs | hs
  · have HS := Lib.hid hs; clear hs
    rcases Bool.eq_false_or_eq_true (nzB a) with hz | hz
    · have HZ := Lib.hid hz; clear hz
      obtain ⟨ha, hz⟩ := nz_iff.1 HZ.out
      have hp := small_bd HS.out
      have hpr : primeB p = true := by have := HS.out; unfold smallB at this; rw [Bool.and_eq_true] at this; exact this.2
      have hz' : (a == 0) = false := by simpa using hz
      have hv := vp_le hp.1 hz
      have hin : inB a (-1000000000000) 1000000000000 = true := inB_iff.2 ha
      have HIN := Lib.hid hin; clear hin
      have HPR := Lib.hid hpr; clear hpr
      go_enter Try.func21, Try.ntmps21
      go_wp2_with (first | (go_at_call 66; ((with_reducible refine (calls_bool (l01Small_any _ _) HS.out).mono ?_); rintro e w' ⟨rfl, rfl⟩)) | (go_at_call 59; ((with_reducible refine (calls_bool (l01Is_any _ _) HIN.out).mono ?_); rintro e w' ⟨rfl, rfl⟩)) | (go_at_call 67; ((with_reducible refine (l16Parts_any _ _ _ hz (by omega) (by omega) hp.1 (by omega)).mono ?_); rintro e w' ⟨rfl, rfl⟩)) | (refine wp_region_wext (by kernel_rfl) (by kernel_rfl) ?_; (repeat (go_big_quiet_step (first | (go_at_call 66; with_reducible refine calls_wext_same (calls_bool (l01Small_any _ _) HS.out)) | (go_at_call 59; with_reducible refine calls_wext_same (calls_bool (l01Is_any _ _) HIN.out)) | (go_at_call 67; with_reducible refine calls_wext_same (l16Parts_any _ _ _ hz (by omega) (by omega) hp.1 (by omega)))))); refine wpQuiet_nil ?_; intro w1_hbq hbq; replace hbq := below_of_wext hbq; obtain ⟨chbq, fhbq, shbq⟩ := bfacts2 hbq; (try simp at shbq)))
      go_loop [8] (fun c => ∃ C : Int, c = .int .i64 C ∧ CInv p a C) (fun c => (10000 - intOf c).toNat)
      case atStart => exact ⟨1, rfl, cInv_start HS.out hz⟩
      case round =>
        obtain ⟨C, rfl, hinv⟩ := hrel
        have HI := Lib.hid hinv; clear hinv
        have hC : 1 ≤ C ∧ C ≤ 9312 := ⟨HI.out.1, HI.out.2.1⟩
        have hC0 : C ≠ 0 := by omega
        have hvC := vp_le hp.1 hC0
        have hq := quo_pos hp.1 hC.1
        have hm := emod_bd (a / p ^ vp p a) (8 * p) (by omega)
        obtain ⟨d1, d2⟩ : 0 ≤ (a / p ^ vp p a) % (8 * p) * (C / p ^ vp p C) ∧ (a / p ^ vp p a) % (8 * p) * (C / p ^ vp p C) ≤ 9000000 := by
          have := Int.mul_le_mul (show (a / p ^ vp p a) % (8 * p) ≤ 776 by omega) (show C / p ^ vp p C ≤ 9312 by omega) (by omega) (by omega)
          have := Int.mul_nonneg hm.1 (show 0 ≤ C / p ^ vp p C by omega)
          omega
        have hcs := Lib.hid (cls_spec HPR.out hz hC0)
        rcases Bool.eq_false_or_eq_true (decide (((vp p a : Int) + vp p C) % 2 = 0)) with he | he
        · have he' : (((vp p a : Int) + vp p C) % 2 == 0) = true := by simpa using he
          have HE := Lib.hid he; clear he
          rcases Bool.eq_false_or_eq_true (sqU p ((a / p ^ vp p a) % (8 * p) * (C / p ^ vp p C))) with hu | hu
          · have HU := Lib.hid hu; clear hu
            go_wp2_with (first | (go_at_call 67; ((with_reducible refine (l16Parts_any _ _ _ hC0 (by omega) (by omega) hp.1 (by omega)).mono ?_); rintro e w' ⟨rfl, rfl⟩)) | (go_at_call 69; ((with_reducible refine (l01Mod_any _ _ _ (by omega) (by omega)).mono ?_); rintro e w' ⟨rfl, rfl⟩)) | (go_at_call 68; ((with_reducible refine (calls_bool (l16Square_any _ _ _ hp) HU.out).mono ?_); rintro e w' ⟨rfl, rfl⟩)) | (refine wp_region_wext (by kernel_rfl) (by kernel_rfl) ?_; (repeat (go_big_quiet_step (first | (go_at_call 67; with_reducible refine calls_wext_same (l16Parts_any _ _ _ hC0 (by omega) (by omega) hp.1 (by omega))) | (go_at_call 69; with_reducible refine calls_wext_same (l01Mod_any _ _ _ (by omega) (by omega))) | (go_at_call 68; with_reducible refine calls_wext_same (calls_bool (l16Square_any _ _ _ hp) HU.out))))); refine wpQuiet_nil ?_; intro w1_hbq hbq; replace hbq := below_of_wext hbq; obtain ⟨chbq, fhbq, shbq⟩ := bfacts2 hbq; (try simp at shbq)))
            go_ret2
            exact ⟨ret2 (by rw [cInv_end HI.out (by rw [hcs.out, HE.out, HU.out]; rfl)]; simp [val, HS.out, HZ.out]) (by simp [code, HS.out, HZ.out]), (by repeat (first | assumption | exact Below.refl _ _ | exact below_box _ | refine Below.drew ?_ | refine Below.setCell ?_ (by first | (simp; done) | (simp; omega)) _ | (refine below_step (by assumption) (by first | omega | (simp; done) | (simp; omega)) ?_) | (refine Below.alloc ?_ (by first | omega | (simp; done) | (simp; omega)) _)))⟩
          · have HU := Lib.hid hu; clear hu
            go_wp2_with (first | (go_at_call 67; ((with_reducible refine (l16Parts_any _ _ _ hC0 (by omega) (by omega) hp.1 (by omega)).mono ?_); rintro e w' ⟨rfl, rfl⟩)) | (go_at_call 69; ((with_reducible refine (l01Mod_any _ _ _ (by omega) (by omega)).mono ?_); rintro e w' ⟨rfl, rfl⟩)) | (go_at_call 68; ((with_reducible refine (calls_bool (l16Square_any _ _ _ hp) HU.out).mono ?_); rintro e w' ⟨rfl, rfl⟩)) | (refine wp_region_wext (by kernel_rfl) (by kernel_rfl) ?_; (repeat (go_big_quiet_step (first | (go_at_call 67; with_reducible refine calls_wext_same (l16Parts_any _ _ _ hC0 (by omega) (by omega) hp.1 (by omega))) | (go_at_call 69; with_reducible refine calls_wext_same (l01Mod_any _ _ _ (by omega) (by omega))) | (go_at_call 68; with_reducible refine calls_wext_same (calls_bool (l16Square_any _ _ _ hp) HU.out))))); refine wpQuiet_nil ?_; intro w1_hbq hbq; replace hbq := below_of_wext hbq; obtain ⟨chbq, fhbq, shbq⟩ := bfacts2 hbq; (try simp at shbq)))
            go_round
            case rel => exact ⟨C + 1, rfl, cInv_step HI.out (by rw [hcs.out, HE.out, HU.out]; rfl)⟩
            case measure => simp [intOf]; omega
        · have he' : (((vp p a : Int) + vp p C) % 2 == 0) = false := by simpa using he
          have HE := Lib.hid he; clear he
          go_wp2_with (first | (go_at_call 67; ((with_reducible refine (l16Parts_any _ _ _ hC0 (by omega) (by omega) hp.1 (by omega)).mono ?_); rintro e w' ⟨rfl, rfl⟩)) | (refine wp_region_wext (by kernel_rfl) (by kernel_rfl) ?_; (repeat (go_big_quiet_step (first | (go_at_call 67; with_reducible refine calls_wext_same (l16Parts_any _ _ _ hC0 (by omega) (by omega) hp.1 (by omega)))))); refine wpQuiet_nil ?_; intro w1_hbq hbq; replace hbq := below_of_wext hbq; obtain ⟨chbq, fhbq, shbq⟩ := bfacts2 hbq; (try simp at shbq)))
          go_round
          case rel => exact ⟨C + 1, rfl, cInv_step HI.out (by rw [hcs.out, HE.out]; rfl)⟩
          case measure => simp [intOf]; omega
    · have HZ := Lib.hid hz; clear hz
      rcases Bool.eq_false_or_eq_true (inB a (-1000000000000) 1000000000000) with hin | hin
      · have hz0 : (a == 0) = true := by
          have := HZ.out
          unfold nzB at this
          rw [hin] at this
          simpa using this
        have HIN := Lib.hid hin; clear hin
        go_enter Try.func21, Try.ntmps21
        go_wp2_with (first | (go_at_call 66; ((with_reducible refine (calls_bool (l01Small_any _ _) HS.out).mono ?_); rintro e w' ⟨rfl, rfl⟩)) | (go_at_call 59; ((with_reducible refine (calls_bool (l01Is_any _ _) HIN.out).mono ?_); rintro e w' ⟨rfl, rfl⟩)) | (refine wp_region_wext (by kernel_rfl) (by kernel_rfl) ?_; (repeat (go_big_quiet_step (first | (go_at_call 66; with_reducible refine calls_wext_same (calls_bool (l01Small_any _ _) HS.out)) | (go_at_call 59; with_reducible refine calls_wext_same (calls_bool (l01Is_any _ _) HIN.out))))); refine wpQuiet_nil ?_; intro w1_hbq hbq; replace hbq := below_of_wext hbq; obtain ⟨chbq, fhbq, shbq⟩ := bfacts2 hbq; (try simp at shbq)))
        go_ret2
        exact ⟨ret2 (by simp [val, HS.out, HZ.out]) (by simp [code, HS.out, HZ.out]), (by repeat (first | assumption | exact Below.refl _ _ | exact below_box _ | refine Below.drew ?_ | refine Below.setCell ?_ (by first | (simp; done) | (simp; omega)) _ | (refine below_step (by assumption) (by first | omega | (simp; done) | (simp; omega)) ?_) | (refine Below.alloc ?_ (by first | omega | (simp; done) | (simp; omega)) _)))⟩
      · have HIN := Lib.hid hin; clear hin
        go_enter Try.func21, Try.ntmps21
        go_wp2_with (first | (go_at_call 66; ((with_reducible refine (calls_bool (l01Small_any _ _) HS.out).mono ?_); rintro e w' ⟨rfl, rfl⟩)) | (go_at_call 59; ((with_reducible refine (calls_bool (l01Is_any _ _) HIN.out).mono ?_); rintro e w' ⟨rfl, rfl⟩)) | (refine wp_region_wext (by kernel_rfl) (by kernel_rfl) ?_; (repeat (go_big_quiet_step (first | (go_at_call 66; with_reducible refine calls_wext_same (calls_bool (l01Small_any _ _) HS.out)) | (go_at_call 59; with_reducible refine calls_wext_same (calls_bool (l01Is_any _ _) HIN.out))))); refine wpQuiet_nil ?_; intro w1_hbq hbq; replace hbq := below_of_wext hbq; obtain ⟨chbq, fhbq, shbq⟩ := bfacts2 hbq; (try simp at shbq)))
        go_ret2
        exact ⟨ret2 (by simp [val, HS.out, HZ.out]) (by simp [code, HS.out, HZ.out]), (by repeat (first | assumption | exact Below.refl _ _ | exact below_box _ | refine Below.drew ?_ | refine Below.setCell ?_ (by first | (simp; done) | (simp; omega)) _ | (refine below_step (by assumption) (by first | omega | (simp; done) | (simp; omega)) ?_) | (refine Below.alloc ?_ (by first | omega | (simp; done) | (simp; omega)) _)))⟩
  · have HS := Lib.hid hs; clear hs
    go_enter Try.func21, Try.ntmps21
    go_wp2_with (first | (go_at_call 66; ((with_reducible refine (calls_bool (l01Small_any _ _) HS.out).mono ?_); rintro e w' ⟨rfl, rfl⟩)) | (refine wp_region_wext (by kernel_rfl) (by kernel_rfl) ?_; (repeat (go_big_quiet_step (first | (go_at_call 66; with_reducible refine calls_wext_same (calls_bool (l01Small_any _ _) HS.out))))); refine wpQuiet_nil ?_; intro w1_hbq hbq; replace hbq := below_of_wext hbq; obtain ⟨chbq, fhbq, shbq⟩ := bfacts2 hbq; (try simp at shbq)))
    go_ret2
    exact ⟨ret2 (by simp [val, HS.out]) (by simp [code, HS.out]), (by repeat (first | assumption | exact Below.refl _ _ | exact below_box _ | refine Below.drew ?_ | refine Below.setCell ?_ (by first | (simp; done) | (simp; omega)) _ | (refine below_step (by assumption) (by first | omega | (simp; done) | (simp; omega)) ?_) | (refine Below.alloc ?_ (by first | omega | (simp; done) | (simp; omega)) _)))⟩


theorem walk (a0 : Int) (a1 : Int) (w : World) (ha0 : -9223372036854775808 ≤ a0 ∧ a0 ≤ 9223372036854775807) (ha1 : -9223372036854775808 ≤ a1 ∧ a1 ≤ 9223372036854775807) :
    Calls Try.prog 6 #[.int .i64 a0, .int .i64 a1] w fun e w' => e = .returned (.bool true) ∧ Below w.heap.size w w' := by
  go_enter Try.func6, Try.ntmps6
  go_wp2_with (first | (go_at_call 21; ((with_reducible refine (spec_any _ _ _).mono ?_); rintro e w1_hb0 ⟨rfl, hb0⟩; obtain ⟨chb0, fhb0, shb0⟩ := bfacts2 hb0; (try simp at shb0))) | (go_at_call 22; ((with_reducible refine (impl_any _ _ _).mono ?_); rintro e w1_hb1 ⟨rfl, hb1⟩; obtain ⟨chb1, fhb1, shb1⟩ := bfacts2 hb1; (try simp at shb1))) | (refine wp_region_wext (by kernel_rfl) (by kernel_rfl) ?_; (repeat (go_big_quiet_step (first | (go_at_call 21; with_reducible refine calls_wext (spec_any _ _ _)) | (go_at_call 22; with_reducible refine calls_wext (impl_any _ _ _))))); refine wpQuiet_nil ?_; intro w1_hbq hbq; replace hbq := below_of_wext hbq; obtain ⟨chbq, fhbq, shbq⟩ := bfacts2 hbq; (try simp at shbq)))
  go_ret
  exact ⟨rfl, (by repeat (first | assumption | exact Below.refl _ _ | exact below_box _ | refine Below.drew ?_ | refine Below.setCell ?_ (by first | (simp; done) | (simp; omega)) _ | (refine below_step (by assumption) (by first | omega | (simp; done) | (simp; omega)) ?_) | (refine Below.alloc ?_ (by first | omega | (simp; done) | (simp; omega)) _)))⟩

theorem own : ownKnob Try.prog.godebug = none := by kernel_rfl
theorem laidOut : laidOutB Try.prog = true := by kernel_rfl

set_option maxRecDepth 100000 in
theorem lifted (os : Os) (started : os.Started) (H : Type) (enc : TypeId × Value → H) :
    ReturnsInHanded {} Try.checked os 6 .any (Rows.fnExactSquareClassSpec.pre6 enc Try.prog Try.f6 Rows.fnExactSquareClassRow.domain false) (Rows.fnExactSquareClassSpec.post enc Try.prog Try.f6 false true false false) := by
  refine returnsInHanded_of_change (C := Try.checked) own started (by kernel_rfl) Try.func6
    (ChangeSpec.witness6 (enc := enc) (C := Try.checked) false ⟨#[], #[.int .i64 0, .int .i64 0], []⟩ 8 (by kernel_rfl) (by kernel_rfl) (by kernel_rfl) (by kernel_rfl)) ?_
  intro W base args ds gs before hval0 hW hcnd _
  have hval : ∀ (j : Nat) t v, Try.f6.params[j]? = some t → args[j]? = some v → Value.okWide Try.prog W .any base t v := hval0
  have hW' := hW
  obtain ⟨p, q, hA0, hV, rfl, hfz, hnd⟩ := hW
  have hA : DataW.TrodAll enc Try.prog W 0 (fun _ => true) true Try.f6.params.toList args.toList ds p := hA0
  rw [Try.params6] at hA hval
  obtain ⟨v0, vs0, d0, ds0, p0, q0, hargs, rfl, rfl, h0, r0⟩ := trodAll_cons hA
  obtain ⟨v1, vs1, d1, ds1, p1, q1, rfl, rfl, rfl, h1, r1⟩ := trodAll_cons r0
  obtain ⟨rfl, rfl, rfl⟩ := trodAll_nil r1
  obtain rfl : args = #[v0, v1] := by cases args; simp_all
  obtain ⟨rfl, rfl⟩ := trodVars_none hV
  have k0 := h0
  have lt0 : ∀ x ∈ p0, x.block < W.heap.size := by obtain ⟨m, hm⟩ := k0; exact DataW.trod_lt m _ _ _ hm
  obtain ⟨a0, rfl, _, _, wf0⟩ := open_int Try.underlying2 (hval 0 2 v0 rfl rfl) h0
  have k1 := h1
  have lt1 : ∀ x ∈ p1, x.block < W.heap.size := by obtain ⟨m, hm⟩ := k1; exact DataW.trod_lt m _ _ _ hm
  obtain ⟨a1, rfl, _, _, wf1⟩ := open_int Try.underlying2 (hval 1 2 v1 rfl rfl) h1
  clear hA0 hval0
  refine (walk a0 a1 W (bounds_i64 wf0) (bounds_i64 wf1)).mono fun e W' ⟨he, bel⟩ => ?_
  subst he
  exact ⟨_, rfl, _, _, _, [], _, [], hW', trodAll_mk1 (shut_bool Try.underlying4 _), (trodAll_cons_mk (Below.trod laidOut (by kernel_rfl) (of_decide_eq_true (by kernel_rfl)) k0 bel lt0) (trodAll_cons_mk (Below.trod laidOut (by kernel_rfl) (of_decide_eq_true (by kernel_rfl)) k1 bel lt1) trodAll_mk0)), rfl, bel.frame _, fun h => by cases h⟩

theorem over : Rows.fnExactSquareClassRow.holds Try.pinned (OpenSpec.ofChange Rows.fnExactSquareClassSpec) :=
  OpenClaim.holds_of_wide 6 Try.f6 rfl rfl rfl rfl rfl rfl rfl ⟨rfl, rfl, rfl, rfl, rfl⟩ rfl rfl rfl rfl rfl (by kernel_rfl) Try.func6 (by kernel_rfl)
    (of_decide_eq_true (by kernel_rfl)) (by unfold Func.isWrapper; first | (rw [if_pos (by decide +kernel)]; kernel_rfl) | (rw [if_neg (by decide +kernel)]; exact ⟨rfl, rfl⟩))
    (fun os started H enc _ => lifted os started H enc)

theorem proved : Rows.FnExactSquareClassSaid := over
#print axioms proved
end Go.Proofs.Ytjampkjgapkklaa.squareClass
