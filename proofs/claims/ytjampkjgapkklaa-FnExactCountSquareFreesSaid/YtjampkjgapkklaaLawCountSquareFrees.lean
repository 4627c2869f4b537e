/- 'laws.FnExactCountSquareFrees' returns true for all arguments: the program's CountSquareFrees and the reference's give the same. Conditions: none. -/
import Derived.Test.YtjampkjgapkklaaRows
import Derived.WalkKit
import Derived.ProofKit
import Derived.OpenShut
import Derived.ShutString
import Derived.ChangeOld
import Derived.Below
import Derived.Lib.SmallJoins
import Derived.Test.YtjampkjgapkklaaK
namespace Go.Proofs.Ytjampkjgapkklaa.countSquareFrees
open Go.ChangeShapes Go.WideShapes Go.ChangeAt Go.RowKit
open Go.ChangeMaps (open_string shut_string)
set_option linter.unusedVariables false
set_option linter.unusedSimpArgs false

def num (p n : Int) : Int := if n < 2 then p ^ n.toNat else p ^ n.toNat - p ^ (n - 1).toNat
def val (p n : Int) : Int := if smallB p then (if inB n 0 8 then (if decide (n < 2) then tmV (p ^ n.toNat) else tmV (p ^ n.toNat - p ^ (n - 1).toNat)) else 0) else 0
def code (p n : Int) : Int := if smallB p then (if inB n 0 8 then (if decide (n < 2) then tmC (p ^ n.toNat) else tmC (p ^ n.toNat - p ^ (n - 1).toNat)) else 2) else 1

set_option maxHeartbeats 1000000 in
theorem spec_any (p n : Int) (w : World) :
    Calls Try.prog 17 #[.int .i64 p, .int .i64 n] w fun e w' => e = .returned (.tuple #[.int .i64 (val p n), .int .i64 (code p n)]) ∧ Below w.heap.size w w' := by
  rcases Bool.eq_false_or_eq_true (smallB p) with hs | hs
  · have HS := Lib.hid hs; clear hs
    rcases Bool.eq_false_or_eq_true (inB n 0 8) with hi | hi
    · have HI := Lib.hid hi; clear hi
      rcases Bool.eq_false_or_eq_true (decide (n < 2)) with hm | hm
      · have HM := Lib.hid hm; clear hm
        go_enter Try.func17, Try.ntmps17
        have hc := Lib.hid (show cntCode p n 0 8 = 0 by simp [cntCode, HS.out, HI.out])
        have hp := small_bd HS.out
        have hi1 := inB_iff.1 HI.out
        have hb := pow8 hp hi1
        have hm1 : n < 2 := by have := HM.out; simpa using this
        go_wp2_with (first | (go_at_call 53; ((with_reducible refine (calls_int (l10Code_any _ _ _ _ _) hc.out).mono ?_); rintro e w' ⟨rfl, rfl⟩)) | (go_at_call 54; ((with_reducible refine (l10Result_any _ _).mono ?_); rintro e w' ⟨rfl, rfl⟩)) | (go_at_call 55; ((with_reducible refine (l10Power_any _ _ _ hp (by omega)).mono ?_); rintro e w' ⟨rfl, rfl⟩)) | (refine wp_region_wext (by kernel_rfl) (by kernel_rfl) ?_; (repeat (go_big_quiet_step (first | (go_at_call 53; with_reducible refine calls_wext_same (calls_int (l10Code_any _ _ _ _ _) hc.out)) | (go_at_call 54; with_reducible refine calls_wext_same (l10Result_any _ _)) | (go_at_call 55; with_reducible refine calls_wext_same (l10Power_any _ _ _ hp (by omega)))))); refine wpQuiet_nil ?_; intro w1_hbq hbq; replace hbq := below_of_wext hbq; obtain ⟨chbq, fhbq, shbq⟩ := bfacts2 hbq; (try simp at shbq)))
        go_ret2
        exact ⟨ret2 (by simp [val, HS.out, HI.out, HM.out]) (by simp [code, HS.out, HI.out, HM.out]), (by repeat (first | exact Below.refl _ _ | exact below_box _ | refine Below.drew ?_ | refine Below.setCell ?_ (by first | (simp; done) | (simp; omega)) _ | (refine below_step (by assumption) (by first | omega | (simp; done) | (simp; omega)) ?_) | (refine Below.alloc ?_ (by first | omega | (simp; done) | (simp; omega)) _)))⟩
      · have HM := Lib.hid hm; clear hm
        go_enter Try.func17, Try.ntmps17
        have hc := Lib.hid (show cntCode p n 0 8 = 0 by simp [cntCode, HS.out, HI.out])
        have hp := small_bd HS.out
        have hi1 := inB_iff.1 HI.out
        have hb := pow8 hp hi1
        have hm1 : 2 ≤ n := by have := HM.out; simpa using this
        have hb2 := pow8 (n := n - 1) hp (by omega)
        have hb3 := hb2
        rw [show (n - 1).toNat = n.toNat - 1 by omega] at hb2
        go_wp2_with (first | (go_at_call 53; ((with_reducible refine (calls_int (l10Code_any _ _ _ _ _) hc.out).mono ?_); rintro e w' ⟨rfl, rfl⟩)) | (go_at_call 54; ((with_reducible refine (l10Result_any _ _).mono ?_); rintro e w' ⟨rfl, rfl⟩)) | (go_at_call 55; ((with_reducible refine (l10Power_any _ _ _ hp (by omega)).mono ?_); rintro e w' ⟨rfl, rfl⟩)) | (refine wp_region_wext (by kernel_rfl) (by kernel_rfl) ?_; (repeat (go_big_quiet_step (first | (go_at_call 53; with_reducible refine calls_wext_same (calls_int (l10Code_any _ _ _ _ _) hc.out)) | (go_at_call 54; with_reducible refine calls_wext_same (l10Result_any _ _)) | (go_at_call 55; with_reducible refine calls_wext_same (l10Power_any _ _ _ hp (by omega)))))); refine wpQuiet_nil ?_; intro w1_hbq hbq; replace hbq := below_of_wext hbq; obtain ⟨chbq, fhbq, shbq⟩ := bfacts2 hbq; (try simp at shbq)))
        go_ret2
        exact ⟨ret2 (by simp [val, HS.out, HI.out, HM.out]) (by simp [code, HS.out, HI.out, HM.out]), (by repeat (first | exact Below.refl _ _ | exact below_box _ | refine Below.drew ?_ | refine Below.setCell ?_ (by first | (simp; done) | (simp; omega)) _ | (refine below_step (by assumption) (by first | omega | (simp; done) | (simp; omega)) ?_) | (refine Below.alloc ?_ (by first | omega | (simp; done) | (simp; omega)) _)))⟩
    · have HI := Lib.hid hi; clear hi
      go_enter Try.func17, Try.ntmps17
      have hc := Lib.hid (show cntCode p n 0 8 = 2 by simp [cntCode, HS.out, HI.out])
      go_wp2_with (first | (go_at_call 53; ((with_reducible refine (calls_int (l10Code_any _ _ _ _ _) hc.out).mono ?_); rintro e w' ⟨rfl, rfl⟩)) | (refine wp_region_wext (by kernel_rfl) (by kernel_rfl) ?_; (repeat (go_big_quiet_step (first | (go_at_call 53; with_reducible refine calls_wext_same (calls_int (l10Code_any _ _ _ _ _) hc.out))))); refine wpQuiet_nil ?_; intro w1_hbq hbq; replace hbq := below_of_wext hbq; obtain ⟨chbq, fhbq, shbq⟩ := bfacts2 hbq; (try simp at shbq)))
      go_ret2
      exact ⟨ret2 (by simp [val, HS.out, HI.out]) (by simp [code, HS.out, HI.out]), (by repeat (first | exact Below.refl _ _ | exact below_box _ | refine Below.drew ?_ | refine Below.setCell ?_ (by first | (simp; done) | (simp; omega)) _ | (refine below_step (by assumption) (by first | omega | (simp; done) | (simp; omega)) ?_) | (refine Below.alloc ?_ (by first | omega | (simp; done) | (simp; omega)) _)))⟩
  · have HS := Lib.hid hs; clear hs
    go_enter Try.func17, Try.ntmps17
    have hc := Lib.hid (show cntCode p n 0 8 = 1 by simp [cntCode, HS.out])
    go_wp2_with (first | (go_at_call 53; ((with_reducible refine (calls_int (l10Code_any _ _ _ _ _) hc.out).mono ?_); rintro e w' ⟨rfl, rfl⟩)) | (refine wp_region_wext (by kernel_rfl) (by kernel_rfl) ?_; (repeat (go_big_quiet_step (first | (go_at_call 53; with_reducible refine calls_wext_same (calls_int (l10Code_any _ _ _ _ _) hc.out))))); refine wpQuiet_nil ?_; intro w1_hbq hbq; replace hbq := below_of_wext hbq; obtain ⟨chbq, fhbq, shbq⟩ := bfacts2 hbq; (try simp at shbq)))
    go_ret2
    exact ⟨ret2 (by simp [val, HS.out]) (by simp [code, HS.out]), (by repeat (first | exact Below.refl _ _ | exact below_box _ | refine Below.drew ?_ | refine Below.setCell ?_ (by first | (simp; done) | (simp; omega)) _ | (refine below_step (by assumption) (by first | omega | (simp; done) | (simp; omega)) ?_) | (refine Below.alloc ?_ (by first | omega | (simp; done) | (simp; omega)) _)))⟩

set_option maxHeartbeats 1000000 in
theorem impl_any (p n : Int) (w : World) :
    Calls Try.prog 18 #[.int .i64 p, .int .i64 n] w fun e w' => e = .returned (.tuple #[.int .i64 (val p n), .int .i64 (code p n)]) ∧ Below w.heap.size w w' := by
  rcases Bool.eq_false_or_eq_true (smallB p) with hs | hs
  · have HS := Lib.hid hs; clear hs
    rcases Bool.eq_false_or_eq_true (inB n 0 8) with hi | hi
    · have HI := Lib.hid hi; clear hi
      rcases Bool.eq_false_or_eq_true (decide (n < 2)) with hm | hm
      · have HM := Lib.hid hm; clear hm
        go_enter Try.func18, Try.ntmps18
        have hc := Lib.hid (show cntCode p n 0 8 = 0 by simp [cntCode, HS.out, HI.out])
        have hp := small_bd HS.out
        have hi1 := inB_iff.1 HI.out
        have hb := pow8 hp hi1
        have hm1 : n < 2 := by have := HM.out; simpa using this
        go_wp2_with (first | (go_at_call 56; ((with_reducible refine (calls_int (counting_any _ _ _ _ _) hc.out).mono ?_); rintro e w' ⟨rfl, rfl⟩)) | (go_at_call 57; ((with_reducible refine (orTooMany_any _ _).mono ?_); rintro e w' ⟨rfl, rfl⟩)) | (go_at_call 58; ((with_reducible refine (power_any _ _ _ (by omega) (by omega) (by omega)).mono ?_); rintro e w' ⟨rfl, rfl⟩)) | (refine wp_region_wext (by kernel_rfl) (by kernel_rfl) ?_; (repeat (go_big_quiet_step (first | (go_at_call 56; with_reducible refine calls_wext_same (calls_int (counting_any _ _ _ _ _) hc.out)) | (go_at_call 57; with_reducible refine calls_wext_same (orTooMany_any _ _)) | (go_at_call 58; with_reducible refine calls_wext_same (power_any _ _ _ (by omega) (by omega) (by omega)))))); refine wpQuiet_nil ?_; intro w1_hbq hbq; replace hbq := below_of_wext hbq; obtain ⟨chbq, fhbq, shbq⟩ := bfacts2 hbq; (try simp at shbq)))
        go_ret2
        exact ⟨ret2 (by simp [val, HS.out, HI.out, HM.out]) (by simp [code, HS.out, HI.out, HM.out]), (by repeat (first | exact Below.refl _ _ | exact below_box _ | refine Below.drew ?_ | refine Below.setCell ?_ (by first | (simp; done) | (simp; omega)) _ | (refine below_step (by assumption) (by first | omega | (simp; done) | (simp; omega)) ?_) | (refine Below.alloc ?_ (by first | omega | (simp; done) | (simp; omega)) _)))⟩
      · have HM := Lib.hid hm; clear hm
        go_enter Try.func18, Try.ntmps18
        have hc := Lib.hid (show cntCode p n 0 8 = 0 by simp [cntCode, HS.out, HI.out])
        have hp := small_bd HS.out
        have hi1 := inB_iff.1 HI.out
        have hb := pow8 hp hi1
        have hm1 : 2 ≤ n := by have := HM.out; simpa using this
        have hb2 := pow8 (n := n - 1) hp (by omega)
        have hb3 := hb2
        rw [show (n - 1).toNat = n.toNat - 1 by omega] at hb2
        go_wp2_with (first | (go_at_call 56; ((with_reducible refine (calls_int (counting_any _ _ _ _ _) hc.out).mono ?_); rintro e w' ⟨rfl, rfl⟩)) | (go_at_call 57; ((with_reducible refine (orTooMany_any _ _).mono ?_); rintro e w' ⟨rfl, rfl⟩)) | (go_at_call 58; ((with_reducible refine (power_any _ _ _ (by omega) (by omega) (by omega)).mono ?_); rintro e w' ⟨rfl, rfl⟩)) | (refine wp_region_wext (by kernel_rfl) (by kernel_rfl) ?_; (repeat (go_big_quiet_step (first | (go_at_call 56; with_reducible refine calls_wext_same (calls_int (counting_any _ _ _ _ _) hc.out)) | (go_at_call 57; with_reducible refine calls_wext_same (orTooMany_any _ _)) | (go_at_call 58; with_reducible refine calls_wext_same (power_any _ _ _ (by omega) (by omega) (by omega)))))); refine wpQuiet_nil ?_; intro w1_hbq hbq; replace hbq := below_of_wext hbq; obtain ⟨chbq, fhbq, shbq⟩ := bfacts2 hbq; (try simp at shbq)))
        go_ret2
        exact ⟨ret2 (by simp [val, HS.out, HI.out, HM.out]) (by simp [code, HS.out, HI.out, HM.out]), (by repeat (first | exact Below.refl _ _ | exact below_box _ | refine Below.drew ?_ | refine Below.setCell ?_ (by first | (simp; done) | (simp; omega)) _ | (refine below_step (by assumption) (by first | omega | (simp; done) | (simp; omega)) ?_) | (refine Below.alloc ?_ (by first | omega | (simp; done) | (simp; omega)) _)))⟩
    · have HI := Lib.hid hi; clear hi
      go_enter Try.func18, Try.ntmps18
      have hc := Lib.hid (show cntCode p n 0 8 = 2 by simp [cntCode, HS.out, HI.out])
      go_wp2_with (first | (go_at_call 56; ((with_reducible refine (calls_int (counting_any _ _ _ _ _) hc.out).mono ?_); rintro e w' ⟨rfl, rfl⟩)) | (refine wp_region_wext (by kernel_rfl) (by kernel_rfl) ?_; (repeat (go_big_quiet_step (first | (go_at_call 56; with_reducible refine calls_wext_same (calls_int (counting_any _ _ _ _ _) hc.out))))); refine wpQuiet_nil ?_; intro w1_hbq hbq; replace hbq := below_of_wext hbq; obtain ⟨chbq, fhbq, shbq⟩ := bfacts2 hbq; (try simp at shbq)))
      go_ret2
      exact ⟨ret2 (by simp [val, HS.out, HI.out]) (by simp [code, HS.out, HI.out]), (by repeat (first | exact Below.refl _ _ | exact below_box _ | refine Below.drew ?_ | refine Below.setCell ?_ (by first | (simp; done) | (simp; omega)) _ | (refine below_step (by assumption) (by first | omega | (simp; done) | (simp; omega)) ?_) | (refine Below.alloc ?_ (by first | omega | (simp; done) | (simp; omega)) _)))⟩
  · have HS := Lib.hid hs; clear hs
    go_enter Try.func18, Try.ntmps18
    have hc := Lib.hid (show cntCode p n 0 8 = 1 by simp [cntCode, HS.out])
    go_wp2_with (first | (go_at_call 56; ((with_reducible refine (calls_int (counting_any _ _ _ _ _) hc.out).mono ?_); rintro e w' ⟨rfl, rfl⟩)) | (refine wp_region_wext (by kernel_rfl) (by kernel_rfl) ?_; (repeat (go_big_quiet_step (first | (go_at_call 56; with_reducible refine calls_wext_same (calls_int (counting_any _ _ _ _ _) hc.out))))); refine wpQuiet_nil ?_; intro w1_hbq hbq; replace hbq := below_of_wext hbq; obtain ⟨chbq, fhbq, shbq⟩ := bfacts2 hbq; (try simp at shbq)))
    go_ret2
    exact ⟨ret2 (by simp [val, HS.out]) (by simp [code, HS.out]), (by repeat (first | exact Below.refl _ _ | exact below_box _ | refine Below.drew ?_ | refine Below.setCell ?_ (by first | (simp; done) | (simp; omega)) _ | (refine below_step (by assumption) (by first | omega | (simp; done) | (simp; omega)) ?_) | (refine Below.alloc ?_ (by first | omega | (simp; done) | (simp; omega)) _)))⟩


theorem walk (a0 : Int) (a1 : Int) (w : World) (ha0 : -9223372036854775808 ≤ a0 ∧ a0 ≤ 9223372036854775807) (ha1 : -9223372036854775808 ≤ a1 ∧ a1 ≤ 9223372036854775807) :
    Calls Try.prog 4 #[.int .i64 a0, .int .i64 a1] w fun e w' => e = .returned (.bool true) ∧ Below w.heap.size w w' := by
  go_enter Try.func4, Try.ntmps4
  go_wp2_with (first | (go_at_call 17; ((with_reducible refine (spec_any _ _ _).mono ?_); rintro e w1_hb0 ⟨rfl, hb0⟩; obtain ⟨chb0, fhb0, shb0⟩ := bfacts2 hb0; (try simp at shb0))) | (go_at_call 18; ((with_reducible refine (impl_any _ _ _).mono ?_); rintro e w1_hb1 ⟨rfl, hb1⟩; obtain ⟨chb1, fhb1, shb1⟩ := bfacts2 hb1; (try simp at shb1))) | (refine wp_region_wext (by kernel_rfl) (by kernel_rfl) ?_; (repeat (go_big_quiet_step (first | (go_at_call 17; with_reducible refine calls_wext (spec_any _ _ _)) | (go_at_call 18; with_reducible refine calls_wext (impl_any _ _ _))))); refine wpQuiet_nil ?_; intro w1_hbq hbq; replace hbq := below_of_wext hbq; obtain ⟨chbq, fhbq, shbq⟩ := bfacts2 hbq; (try simp at shbq)))
  go_ret
  exact ⟨rfl, (by repeat (first | exact Below.refl _ _ | exact below_box _ | refine Below.drew ?_ | refine Below.setCell ?_ (by first | (simp; done) | (simp; omega)) _ | (refine below_step (by assumption) (by first | omega | (simp; done) | (simp; omega)) ?_) | (refine Below.alloc ?_ (by first | omega | (simp; done) | (simp; omega)) _)))⟩

theorem own : ownKnob Try.prog.godebug = none := by kernel_rfl
theorem laidOut : laidOutB Try.prog = true := by kernel_rfl

set_option maxRecDepth 100000 in
theorem lifted (os : Os) (started : os.Started) (H : Type) (enc : TypeId × Value → H) :
    ReturnsInHanded {} Try.checked os 4 .any (Rows.fnExactCountSquareFreesSpec.pre6 enc Try.prog Try.f4 Rows.fnExactCountSquareFreesRow.domain false) (Rows.fnExactCountSquareFreesSpec.post enc Try.prog Try.f4 false true false false) := by
  refine returnsInHanded_of_change (C := Try.checked) own started (by kernel_rfl) Try.func4
    (ChangeSpec.witness6 (enc := enc) (C := Try.checked) false ⟨#[], #[.int .i64 0, .int .i64 0], []⟩ 8 (by kernel_rfl) (by kernel_rfl) (by kernel_rfl) (by kernel_rfl)) ?_
  intro W base args ds gs before hval0 hW hcnd _
  have hval : ∀ (j : Nat) t v, Try.f4.params[j]? = some t → args[j]? = some v → Value.okWide Try.prog W .any base t v := hval0
  have hW' := hW
  obtain ⟨p, q, hA0, hV, rfl, hfz, hnd⟩ := hW
  have hA : DataW.TrodAll enc Try.prog W 0 (fun _ => true) true Try.f4.params.toList args.toList ds p := hA0
  rw [Try.params4] at hA hval
  obtain ⟨v0, vs0, d0, ds0, p0, q0, hargs, rfl, rfl, h0, r0⟩ := trodAll_cons hA
  obtain ⟨v1, vs1, d1, ds1, p1, q1, rfl, rfl, rfl, h1, r1⟩ := trodAll_cons r0
  obtain ⟨rfl, rfl, rfl⟩ := trodAll_nil r1
  obtain rfl : args = #[v0, v1] := by cases args; simp_all
  obtain ⟨rfl, rfl⟩ := trodVars_none hV
  have k0 := h0
  have lt0 : ∀ x ∈ p0, x.block < W.heap.size := by obtain ⟨m, hm⟩ := k0; exact DataW.trod_lt m _ _ _ hm
  obtain ⟨a0, rfl, _, _, wf0⟩ := open_int Try.underlying2 (hval 0 2 v0 rfl rfl) h0
  have k1 := h1
  have lt1 : ∀ x ∈ p1, x.block < W.heap.size := by obtain ⟨m, hm⟩ := k1; exact DataW.trod_lt m _ _ _ hm
  obtain ⟨a1, rfl, _, _, wf1⟩ := open_int Try.underlying2 (hval 1 2 v1 rfl rfl) h1
  clear hA0 hval0
  refine (walk a0 a1 W (bounds_i64 wf0) (bounds_i64 wf1)).mono fun e W' ⟨he, bel⟩ => ?_
  subst he
  exact ⟨_, rfl, _, _, _, [], _, [], hW', trodAll_mk1 (shut_bool Try.underlying4 _), (trodAll_cons_mk (Below.trod laidOut (by kernel_rfl) (of_decide_eq_true (by kernel_rfl)) k0 bel lt0) (trodAll_cons_mk (Below.trod laidOut (by kernel_rfl) (of_decide_eq_true (by kernel_rfl)) k1 bel lt1) trodAll_mk0)), rfl, bel.frame _, fun h => by cases h⟩

theorem over : Rows.fnExactCountSquareFreesRow.holds Try.pinned (OpenSpec.ofChange Rows.fnExactCountSquareFreesSpec) :=
  OpenClaim.holds_of_wide 4 Try.f4 rfl rfl rfl rfl rfl rfl rfl ⟨rfl, rfl, rfl, rfl, rfl⟩ rfl rfl rfl rfl rfl (by kernel_rfl) Try.func4 (by kernel_rfl)
    (of_decide_eq_true (by kernel_rfl)) (by unfold Func.isWrapper; first | (rw [if_pos (by decide +kernel)]; kernel_rfl) | (rw [if_neg (by decide +kernel)]; exact ⟨rfl, rfl⟩))
    (fun os started H enc _ => lifted os started H enc)

theorem proved : Rows.FnExactCountSquareFreesSaid := over
#print axioms proved
end Go.Proofs.Ytjampkjgapkklaa.countSquareFrees
