/- 'laws.FnExactReduceTo' returns true for all arguments: the program's ReduceTo and the reference's give the same. Conditions: none. -/
import Derived.Test.YtmbkdcjgblgopaaRows
import Derived.WalkKit
import Derived.ProofKit
import Derived.OpenShut
import Derived.ShutString
import Derived.ChangeOld
import Derived.Below
import Derived.Lib.SmallJoins
import Derived.Test.YtmbkdcjgblgopaaC
namespace Go.Proofs.Ytmbkdcjgblgopaa.reduceTo
open Go.ChangeShapes Go.WideShapes Go.ChangeAt Go.RowKit
open Go.ChangeMaps (open_string shut_string)
set_option linter.unusedVariables false
set_option linter.unusedSimpArgs false

def val (p n a : Int) : Int := if ringB p n then (if inB a (-1000000000000) 1000000000000 then a % p ^ n.toNat else 0) else 0
def code (p n a : Int) : Int := if ringB p n then (if inB a (-1000000000000) 1000000000000 then 0 else 2) else 1
set_option maxHeartbeats 1000000 in
theorem spec_any (p n a : Int) (hn : n ≤ 9223372036854775807) (hn' : -9223372036854775808 ≤ n) (w : World) :
    Calls Try.prog 20 #[.agg #[.int .i64 p, .int .i64 n], .int .i64 a] w fun e w' => e = .returned (.tuple #[.int .i64 (val p n a), .int .i64 (code p n a)]) ∧ Below w.heap.size w w' := by
  rcases Bool.eq_false_or_eq_true (ringB p n) with hr | hr
  · have HR := Lib.hid hr; clear hr
    rcases Bool.eq_false_or_eq_true (inB a (-1000000000000) 1000000000000) with hv | hv
    · have HV := Lib.hid hv; clear hv
      go_enter Try.func20, Try.ntmps20
      have hB := (ring_bd HR.out).2.2
      have hB1 := (ring_bd HR.out).1
      go_wp2_with (first | (go_at_call 42; ((with_reducible refine (calls_bool (specIsRing_any _ _ _ hn hn') HR.out).mono ?_); rintro e w1_hb0 ⟨rfl, hb0⟩; obtain ⟨chb0, fhb0, shb0⟩ := bfacts hb0; (try have l0hb0 : w.heap.size < w1_hb0.heap.size := (by first | (simp at shb0; omega) | omega)); (try have l1hb0 : w.heap.size + 1 < w1_hb0.heap.size := (by first | (simp at shb0; omega) | omega)))) | (go_at_call 48; ((with_reducible refine (calls_bool (l01Is_any _ _) HV.out).mono ?_); rintro e w' ⟨rfl, rfl⟩)) | (go_at_call 43; ((with_reducible refine (l02Modulus_ring _ _ _ HR.out).mono ?_); rintro e w' ⟨rfl, rfl⟩)) | (go_at_call 49; ((with_reducible refine (l01Mod_any _ _ _ (by omega) (by omega)).mono ?_); rintro e w' ⟨rfl, rfl⟩)) | (refine wp_region_wext (by kernel_rfl) (by kernel_rfl) ?_; (repeat (go_big_quiet_step (first | (go_at_call 42; with_reducible refine calls_wext (calls_bool (specIsRing_any _ _ _ hn hn') HR.out)) | (go_at_call 48; with_reducible refine calls_wext_same (calls_bool (l01Is_any _ _) HV.out)) | (go_at_call 43; with_reducible refine calls_wext_same (l02Modulus_ring _ _ _ HR.out)) | (go_at_call 49; with_reducible refine calls_wext_same (l01Mod_any _ _ _ (by omega) (by omega)))))); refine wpQuiet_nil ?_; intro w1_hbq hbq; replace hbq := below_of_wext hbq; obtain ⟨chbq, fhbq, shbq⟩ := bfacts hbq; (try have l0hbq : w.heap.size < w1_hbq.heap.size := (by first | (simp at shbq; omega) | omega)); (try have l1hbq : w.heap.size + 1 < w1_hbq.heap.size := (by first | (simp at shbq; omega) | omega))))
      go_ret2
      exact ⟨ret2 (by simp [val, HR.out, HV.out]) (by simp [code, HR.out, HV.out]), (by repeat (first | exact Below.refl _ _ | exact below_box _ | refine Below.drew ?_ | refine Below.setCell ?_ (by first | (simp; done) | (simp; omega)) _ | (refine below_step (by assumption) (by first | omega | (simp; done) | (simp; omega)) ?_) | (refine Below.alloc ?_ (by first | omega | (simp; done) | (simp; omega)) _)))⟩
    · have HV := Lib.hid hv; clear hv
      go_enter Try.func20, Try.ntmps20
      have hB := (ring_bd HR.out).2.2
      have hB1 := (ring_bd HR.out).1
      go_wp2_with (first | (go_at_call 42; ((with_reducible refine (calls_bool (specIsRing_any _ _ _ hn hn') HR.out).mono ?_); rintro e w1_hb0 ⟨rfl, hb0⟩; obtain ⟨chb0, fhb0, shb0⟩ := bfacts hb0; (try have l0hb0 : w.heap.size < w1_hb0.heap.size := (by first | (simp at shb0; omega) | omega)); (try have l1hb0 : w.heap.size + 1 < w1_hb0.heap.size := (by first | (simp at shb0; omega) | omega)))) | (go_at_call 48; ((with_reducible refine (calls_bool (l01Is_any _ _) HV.out).mono ?_); rintro e w' ⟨rfl, rfl⟩)) | (go_at_call 43; ((with_reducible refine (l02Modulus_ring _ _ _ HR.out).mono ?_); rintro e w' ⟨rfl, rfl⟩)) | (go_at_call 49; ((with_reducible refine (l01Mod_any _ _ _ (by omega) (by omega)).mono ?_); rintro e w' ⟨rfl, rfl⟩)) | (refine wp_region_wext (by kernel_rfl) (by kernel_rfl) ?_; (repeat (go_big_quiet_step (first | (go_at_call 42; with_reducible refine calls_wext (calls_bool (specIsRing_any _ _ _ hn hn') HR.out)) | (go_at_call 48; with_reducible refine calls_wext_same (calls_bool (l01Is_any _ _) HV.out)) | (go_at_call 43; with_reducible refine calls_wext_same (l02Modulus_ring _ _ _ HR.out)) | (go_at_call 49; with_reducible refine calls_wext_same (l01Mod_any _ _ _ (by omega) (by omega)))))); refine wpQuiet_nil ?_; intro w1_hbq hbq; replace hbq := below_of_wext hbq; obtain ⟨chbq, fhbq, shbq⟩ := bfacts hbq; (try have l0hbq : w.heap.size < w1_hbq.heap.size := (by first | (simp at shbq; omega) | omega)); (try have l1hbq : w.heap.size + 1 < w1_hbq.heap.size := (by first | (simp at shbq; omega) | omega))))
      go_ret2
      exact ⟨ret2 (by simp [val, HR.out, HV.out]) (by simp [code, HR.out, HV.out]), (by repeat (first | exact Below.refl _ _ | exact below_box _ | refine Below.drew ?_ | refine Below.setCell ?_ (by first | (simp; done) | (simp; omega)) _ | (refine below_step (by assumption) (by first | omega | (simp; done) | (simp; omega)) ?_) | (refine Below.alloc ?_ (by first | omega | (simp; done) | (simp; omega)) _)))⟩
  · have HR := Lib.hid hr; clear hr
    go_enter Try.func20, Try.ntmps20
    go_wp2_with (first | (go_at_call 42; ((with_reducible refine (calls_bool (specIsRing_any _ _ _ hn hn') HR.out).mono ?_); rintro e w1_hb0 ⟨rfl, hb0⟩; obtain ⟨chb0, fhb0, shb0⟩ := bfacts hb0; (try have l0hb0 : w.heap.size < w1_hb0.heap.size := (by first | (simp at shb0; omega) | omega)); (try have l1hb0 : w.heap.size + 1 < w1_hb0.heap.size := (by first | (simp at shb0; omega) | omega)))) | (refine wp_region_wext (by kernel_rfl) (by kernel_rfl) ?_; (repeat (go_big_quiet_step (first | (go_at_call 42; with_reducible refine calls_wext (calls_bool (specIsRing_any _ _ _ hn hn') HR.out))))); refine wpQuiet_nil ?_; intro w1_hbq hbq; replace hbq := below_of_wext hbq; obtain ⟨chbq, fhbq, shbq⟩ := bfacts hbq; (try have l0hbq : w.heap.size < w1_hbq.heap.size := (by first | (simp at shbq; omega) | omega)); (try have l1hbq : w.heap.size + 1 < w1_hbq.heap.size := (by first | (simp at shbq; omega) | omega))))
    go_ret2
    exact ⟨ret2 (by simp [val, HR.out]) (by simp [code, HR.out]), (by repeat (first | exact Below.refl _ _ | exact below_box _ | refine Below.drew ?_ | refine Below.setCell ?_ (by first | (simp; done) | (simp; omega)) _ | (refine below_step (by assumption) (by first | omega | (simp; done) | (simp; omega)) ?_) | (refine Below.alloc ?_ (by first | omega | (simp; done) | (simp; omega)) _)))⟩

set_option maxHeartbeats 1000000 in
theorem impl_any (p n a : Int) (hn : n ≤ 9223372036854775807) (hn' : -9223372036854775808 ≤ n) (w : World) :
    Calls Try.prog 21 #[.agg #[.int .i64 p, .int .i64 n], .int .i64 a] w fun e w' => e = .returned (.tuple #[.int .i64 (val p n a), .int .i64 (code p n a)]) ∧ Below w.heap.size w w' := by
  rcases Bool.eq_false_or_eq_true (ringB p n) with hr | hr
  · have HR := Lib.hid hr; clear hr
    rcases Bool.eq_false_or_eq_true (inB a (-1000000000000) 1000000000000) with hv | hv
    · have HV := Lib.hid hv; clear hv
      go_enter Try.func21, Try.ntmps21
      have hB := (ring_bd HR.out).2.2
      have hB1 := (ring_bd HR.out).1
      go_wp2_with (first | (go_at_call 44; ((with_reducible refine (calls_bool (IsRing_any _ _ _ hn hn') HR.out).mono ?_); rintro e w1_hb0 ⟨rfl, hb0⟩; obtain ⟨chb0, fhb0, shb0⟩ := bfacts hb0; (try have l0hb0 : w.heap.size < w1_hb0.heap.size := (by first | (simp at shb0; omega) | omega)); (try have l1hb0 : w.heap.size + 1 < w1_hb0.heap.size := (by first | (simp at shb0; omega) | omega)))) | (go_at_call 50; ((with_reducible refine (calls_bool (isValue_any _ _) HV.out).mono ?_); rintro e w' ⟨rfl, rfl⟩)) | (go_at_call 45; ((with_reducible refine (modulus_any _ _ _ HR.out).mono ?_); rintro e w1_hb2 ⟨rfl, hb2⟩; obtain ⟨chb2, fhb2, shb2⟩ := bfacts hb2; (try have l0hb2 : w.heap.size < w1_hb2.heap.size := (by first | (simp at shb2; omega) | omega)); (try have l1hb2 : w.heap.size + 1 < w1_hb2.heap.size := (by first | (simp at shb2; omega) | omega)))) | (go_at_call 51; ((with_reducible refine (mod_any _ _ _ (by omega) (by omega)).mono ?_); rintro e w' ⟨rfl, rfl⟩)) | (refine wp_region_wext (by kernel_rfl) (by kernel_rfl) ?_; (repeat (go_big_quiet_step (first | (go_at_call 44; with_reducible refine calls_wext (calls_bool (IsRing_any _ _ _ hn hn') HR.out)) | (go_at_call 50; with_reducible refine calls_wext_same (calls_bool (isValue_any _ _) HV.out)) | (go_at_call 45; with_reducible refine calls_wext (modulus_any _ _ _ HR.out)) | (go_at_call 51; with_reducible refine calls_wext_same (mod_any _ _ _ (by omega) (by omega)))))); refine wpQuiet_nil ?_; intro w1_hbq hbq; replace hbq := below_of_wext hbq; obtain ⟨chbq, fhbq, shbq⟩ := bfacts hbq; (try have l0hbq : w.heap.size < w1_hbq.heap.size := (by first | (simp at shbq; omega) | omega)); (try have l1hbq : w.heap.size + 1 < w1_hbq.heap.size := (by first | (simp at shbq; omega) | omega))))
      go_ret2
      exact ⟨ret2 (by simp [val, HR.out, HV.out]) (by simp [code, HR.out, HV.out]), (by repeat (first | exact Below.refl _ _ | exact below_box _ | refine Below.drew ?_ | refine Below.setCell ?_ (by first | (simp; done) | (simp; omega)) _ | (refine below_step (by assumption) (by first | omega | (simp; done) | (simp; omega)) ?_) | (refine Below.alloc ?_ (by first | omega | (simp; done) | (simp; omega)) _)))⟩
    · have HV := Lib.hid hv; clear hv
      go_enter Try.func21, Try.ntmps21
      have hB := (ring_bd HR.out).2.2
      have hB1 := (ring_bd HR.out).1
      go_wp2_with (first | (go_at_call 44; ((with_reducible refine (calls_bool (IsRing_any _ _ _ hn hn') HR.out).mono ?_); rintro e w1_hb0 ⟨rfl, hb0⟩; obtain ⟨chb0, fhb0, shb0⟩ := bfacts hb0; (try have l0hb0 : w.heap.size < w1_hb0.heap.size := (by first | (simp at shb0; omega) | omega)); (try have l1hb0 : w.heap.size + 1 < w1_hb0.heap.size := (by first | (simp at shb0; omega) | omega)))) | (go_at_call 50; ((with_reducible refine (calls_bool (isValue_any _ _) HV.out).mono ?_); rintro e w' ⟨rfl, rfl⟩)) | (go_at_call 45; ((with_reducible refine (modulus_any _ _ _ HR.out).mono ?_); rintro e w1_hb2 ⟨rfl, hb2⟩; obtain ⟨chb2, fhb2, shb2⟩ := bfacts hb2; (try have l0hb2 : w.heap.size < w1_hb2.heap.size := (by first | (simp at shb2; omega) | omega)); (try have l1hb2 : w.heap.size + 1 < w1_hb2.heap.size := (by first | (simp at shb2; omega) | omega)))) | (go_at_call 51; ((with_reducible refine (mod_any _ _ _ (by omega) (by omega)).mono ?_); rintro e w' ⟨rfl, rfl⟩)) | (refine wp_region_wext (by kernel_rfl) (by kernel_rfl) ?_; (repeat (go_big_quiet_step (first | (go_at_call 44; with_reducible refine calls_wext (calls_bool (IsRing_any _ _ _ hn hn') HR.out)) | (go_at_call 50; with_reducible refine calls_wext_same (calls_bool (isValue_any _ _) HV.out)) | (go_at_call 45; with_reducible refine calls_wext (modulus_any _ _ _ HR.out)) | (go_at_call 51; with_reducible refine calls_wext_same (mod_any _ _ _ (by omega) (by omega)))))); refine wpQuiet_nil ?_; intro w1_hbq hbq; replace hbq := below_of_wext hbq; obtain ⟨chbq, fhbq, shbq⟩ := bfacts hbq; (try have l0hbq : w.heap.size < w1_hbq.heap.size := (by first | (simp at shbq; omega) | omega)); (try have l1hbq : w.heap.size + 1 < w1_hbq.heap.size := (by first | (simp at shbq; omega) | omega))))
      go_ret2
      exact ⟨ret2 (by simp [val, HR.out, HV.out]) (by simp [code, HR.out, HV.out]), (by repeat (first | exact Below.refl _ _ | exact below_box _ | refine Below.drew ?_ | refine Below.setCell ?_ (by first | (simp; done) | (simp; omega)) _ | (refine below_step (by assumption) (by first | omega | (simp; done) | (simp; omega)) ?_) | (refine Below.alloc ?_ (by first | omega | (simp; done) | (simp; omega)) _)))⟩
  · have HR := Lib.hid hr; clear hr
    go_enter Try.func21, Try.ntmps21
    go_wp2_with (first | (go_at_call 44; ((with_reducible refine (calls_bool (IsRing_any _ _ _ hn hn') HR.out).mono ?_); rintro e w1_hb0 ⟨rfl, hb0⟩; obtain ⟨chb0, fhb0, shb0⟩ := bfacts hb0; (try have l0hb0 : w.heap.size < w1_hb0.heap.size := (by first | (simp at shb0; omega) | omega)); (try have l1hb0 : w.heap.size + 1 < w1_hb0.heap.size := (by first | (simp at shb0; omega) | omega)))) | (refine wp_region_wext (by kernel_rfl) (by kernel_rfl) ?_; (repeat (go_big_quiet_step (first | (go_at_call 44; with_reducible refine calls_wext (calls_bool (IsRing_any _ _ _ hn hn') HR.out))))); refine wpQuiet_nil ?_; intro w1_hbq hbq; replace hbq := below_of_wext hbq; obtain ⟨chbq, fhbq, shbq⟩ := bfacts hbq; (try have l0hbq : w.heap.size < w1_hbq.heap.size := (by first | (simp at shbq; omega) | omega)); (try have l1hbq : w.heap.size + 1 < w1_hbq.heap.size := (by first | (simp at shbq; omega) | omega))))
    go_ret2
    exact ⟨ret2 (by simp [val, HR.out]) (by simp [code, HR.out]), (by repeat (first | exact Below.refl _ _ | exact below_box _ | refine Below.drew ?_ | refine Below.setCell ?_ (by first | (simp; done) | (simp; omega)) _ | (refine below_step (by assumption) (by first | omega | (simp; done) | (simp; omega)) ?_) | (refine Below.alloc ?_ (by first | omega | (simp; done) | (simp; omega)) _)))⟩


theorem walk (a0x0 a0x1 : Int) (a1 : Int) (w : World) (ha0x0 : -9223372036854775808 ≤ a0x0 ∧ a0x0 ≤ 9223372036854775807) (ha0x1 : -9223372036854775808 ≤ a0x1 ∧ a0x1 ≤ 9223372036854775807) (ha1 : -9223372036854775808 ≤ a1 ∧ a1 ≤ 9223372036854775807) :
    Calls Try.prog 5 #[.agg #[.int .i64 a0x0, .int .i64 a0x1], .int .i64 a1] w fun e w' => e = .returned (.bool true) ∧ Below w.heap.size w w' := by
  go_enter Try.func5, Try.ntmps5
  go_wp2_with (first | (go_at_call 16; ((with_reducible refine (toRing_any _ _ _).mono ?_); rintro e w1_hb0 ⟨rfl, hb0⟩; obtain ⟨chb0, fhb0, shb0⟩ := bfacts hb0; (try have l0hb0 : w.heap.size < w1_hb0.heap.size := (by first | (simp at shb0; omega) | omega)); (try have l1hb0 : w.heap.size + 1 < w1_hb0.heap.size := (by first | (simp at shb0; omega) | omega)))) | (go_at_call 20; ((with_reducible refine (spec_any _ _ _ ha0x1.2 ha0x1.1 _).mono ?_); rintro e w1_hb1 ⟨rfl, hb1⟩; obtain ⟨chb1, fhb1, shb1⟩ := bfacts hb1; (try have l0hb1 : w.heap.size < w1_hb1.heap.size := (by first | (simp at shb1; omega) | omega)); (try have l1hb1 : w.heap.size + 1 < w1_hb1.heap.size := (by first | (simp at shb1; omega) | omega)))) | (go_at_call 21; ((with_reducible refine (impl_any _ _ _ ha0x1.2 ha0x1.1 _).mono ?_); rintro e w1_hb2 ⟨rfl, hb2⟩; obtain ⟨chb2, fhb2, shb2⟩ := bfacts hb2; (try have l0hb2 : w.heap.size < w1_hb2.heap.size := (by first | (simp at shb2; omega) | omega)); (try have l1hb2 : w.heap.size + 1 < w1_hb2.heap.size := (by first | (simp at shb2; omega) | omega)))) | (refine wp_region_wext (by kernel_rfl) (by kernel_rfl) ?_; (repeat (go_big_quiet_step (first | (go_at_call 16; with_reducible refine calls_wext (toRing_any _ _ _)) | (go_at_call 20; with_reducible refine calls_wext (spec_any _ _ _ ha0x1.2 ha0x1.1 _)) | (go_at_call 21; with_reducible refine calls_wext (impl_any _ _ _ ha0x1.2 ha0x1.1 _))))); refine wpQuiet_nil ?_; intro w1_hbq hbq; replace hbq := below_of_wext hbq; obtain ⟨chbq, fhbq, shbq⟩ := bfacts hbq; (try have l0hbq : w.heap.size < w1_hbq.heap.size := (by first | (simp at shbq; omega) | omega)); (try have l1hbq : w.heap.size + 1 < w1_hbq.heap.size := (by first | (simp at shbq; omega) | omega))))
  go_ret
  exact ⟨rfl, (by repeat (first | exact Below.refl _ _ | exact below_box _ | refine Below.drew ?_ | refine Below.setCell ?_ (by first | (simp; done) | (simp; omega)) _ | (refine below_step (by assumption) (by first | omega | (simp; done) | (simp; omega)) ?_) | (refine Below.alloc ?_ (by first | omega | (simp; done) | (simp; omega)) _)))⟩

theorem own : ownKnob Try.prog.godebug = none := by kernel_rfl
theorem laidOut : laidOutB Try.prog = true := by kernel_rfl
theorem cells23 : Try.prog.cellsOf 23 = 2 := by kernel_rfl

set_option maxRecDepth 100000 in
theorem lifted (os : Os) (started : os.Started) (H : Type) (enc : TypeId × Value → H) :
    ReturnsInHanded {} Try.checked os 5 .any (Rows.fnExactReduceToSpec.pre6 enc Try.prog Try.f5 Rows.fnExactReduceToRow.domain false) (Rows.fnExactReduceToSpec.post enc Try.prog Try.f5 false true false false) := by
  refine returnsInHanded_of_change (C := Try.checked) own started (by kernel_rfl) Try.func5
    (ChangeSpec.witness6 (enc := enc) (C := Try.checked) false ⟨#[], #[.agg #[.int .i64 0, .int .i64 0], .int .i64 0], []⟩ 8 (by kernel_rfl) (by kernel_rfl) (by kernel_rfl) (by kernel_rfl)) ?_
  intro W base args ds gs before hval0 hW hcnd _
  have hval : ∀ (j : Nat) t v, Try.f5.params[j]? = some t → args[j]? = some v → Value.okWide Try.prog W .any base t v := hval0
  have hW' := hW
  obtain ⟨p, q, hA0, hV, rfl, hfz, hnd⟩ := hW
  have hA : DataW.TrodAll enc Try.prog W 0 (fun _ => true) true Try.f5.params.toList args.toList ds p := hA0
  rw [Try.params5] at hA hval
  obtain ⟨v0, vs0, d0, ds0, p0, q0, hargs, rfl, rfl, h0, r0⟩ := trodAll_cons hA
  obtain ⟨v1, vs1, d1, ds1, p1, q1, rfl, rfl, rfl, h1, r1⟩ := trodAll_cons r0
  obtain ⟨rfl, rfl, rfl⟩ := trodAll_nil r1
  obtain rfl : args = #[v0, v1] := by cases args; simp_all
  obtain ⟨rfl, rfl⟩ := trodVars_none hV
  have k0 := h0
  have lt0 : ∀ x ∈ p0, x.block < W.heap.size := by obtain ⟨m, hm⟩ := k0; exact DataW.trod_lt m _ _ _ hm
  obtain ⟨c0x0, c0x1, y0x0, y0x1, m0, rfl, _, _, hy0x0, hy0x1⟩ := Joins.open_agg2 Try.underlying23 (by kernel_rfl) cells23 (hval 0 23 v0 rfl rfl) h0
  obtain ⟨a0x0, e0x0, _, wf0x0⟩ := DataW.trod_int Try.underlying2 hy0x0
  simp at e0x0; subst e0x0
  obtain ⟨a0x1, e0x1, _, wf0x1⟩ := DataW.trod_int Try.underlying2 hy0x1
  simp at e0x1; subst e0x1
  have k1 := h1
  have lt1 : ∀ x ∈ p1, x.block < W.heap.size := by obtain ⟨m, hm⟩ := k1; exact DataW.trod_lt m _ _ _ hm
  obtain ⟨a1, rfl, _, _, wf1⟩ := open_int Try.underlying2 (hval 1 2 v1 rfl rfl) h1
  clear hA0 hval0
  refine (walk a0x0 a0x1 a1 W (bounds_i64 wf0x0) (bounds_i64 wf0x1) (bounds_i64 wf1)).mono fun e W' ⟨he, bel⟩ => ?_
  subst he
  exact ⟨_, rfl, _, _, _, [], _, [], hW', trodAll_mk1 (shut_bool Try.underlying4 _), (trodAll_cons_mk (Below.trod laidOut (by kernel_rfl) (of_decide_eq_true (by kernel_rfl)) k0 bel lt0) (trodAll_cons_mk (Below.trod laidOut (by kernel_rfl) (of_decide_eq_true (by kernel_rfl)) k1 bel lt1) trodAll_mk0)), rfl, bel.frame _, fun h => by cases h⟩

theorem over : Rows.fnExactReduceToRow.holds Try.pinned (OpenSpec.ofChange Rows.fnExactReduceToSpec) :=
  OpenClaim.holds_of_wide 5 Try.f5 rfl rfl rfl rfl rfl rfl rfl ⟨rfl, rfl, rfl, rfl, rfl⟩ rfl rfl rfl rfl rfl (by kernel_rfl) Try.func5 (by kernel_rfl)
    (of_decide_eq_true (by kernel_rfl)) (by unfold Func.isWrapper; first | (rw [if_pos (by decide +kernel)]; kernel_rfl) | (rw [if_neg (by decide +kernel)]; exact ⟨rfl, rfl⟩))
    (fun os started H enc _ => lifted os started H enc)

theorem proved : Rows.FnExactReduceToSaid := over
#print axioms proved
end Go.Proofs.Ytmbkdcjgblgopaa.reduceTo
