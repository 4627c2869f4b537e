/- 'laws.FnExactJacobiSymbol' returns true for all arguments: the program's JacobiSymbol and the reference's give the same. Conditions: none. -/
import Derived.Test.YtjampkjgapkklaaRows
import Derived.WalkKit
import Derived.ProofKit
import Derived.OpenShut
import Derived.ShutString
import Derived.ChangeOld
import Derived.Below
import Derived.Lib.SmallJoins
import Derived.Test.YtjampkjgapkklaaFb
namespace Go.Proofs.Ytjampkjgapkklaa.jacobiSymbol
open Go.ChangeShapes Go.WideShapes Go.ChangeAt Go.RowKit
open Go.ChangeMaps (open_string shut_string)
set_option linter.unusedVariables false
set_option linter.unusedSimpArgs false

theorem spec_any (a n : Int) (w : World) :
    Calls Try.prog 19 #[.int .i64 a, .int .i64 n] w fun e w' => e = .returned (.tuple #[.int .i64 (jacV a n), .int .i64 (jacC a n)]) ∧ Below w.heap.size w w' := by
  rcases Bool.eq_false_or_eq_true (inB a (-1000000000000) 1000000000000) with ha | ha
  · rcases Bool.eq_false_or_eq_true (inB n 1 1000000) with hn | hn
    · by_cases ho : n % 2 = 0
      · have HA := Lib.hid ha
        have HN := Lib.hid hn
        have hV := Lib.hid (show jacV a n = 0 by simp [jacV, jacOk, ho])
        have hC := Lib.hid (show jacC a n = 2 by simp [jacC, jacOk, ho])
        obtain ⟨n1, n2⟩ := inB_iff.1 hn
        have ho' : (n % 2 == 0) = true := by simpa using ho
        clear ha hn ho
        go_enter Try.func19, Try.ntmps19
        go_wp2_with (first | (go_at_call 59; ((with_reducible refine (calls_bool (l01Is_any _ _) HA.out).mono ?_); rintro e w' ⟨rfl, rfl⟩)) | (go_at_call 50; ((with_reducible refine (calls_bool (l01In_any _ _ _ _) HN.out).mono ?_); rintro e w' ⟨rfl, rfl⟩)) | (refine wp_region_wext (by kernel_rfl) (by kernel_rfl) ?_; (repeat (go_big_quiet_step (first | (go_at_call 59; with_reducible refine calls_wext_same (calls_bool (l01Is_any _ _) HA.out)) | (go_at_call 50; with_reducible refine calls_wext_same (calls_bool (l01In_any _ _ _ _) HN.out))))); refine wpQuiet_nil ?_; intro w1_hbq hbq; replace hbq := below_of_wext hbq; obtain ⟨chbq, fhbq, shbq⟩ := bfacts2 hbq; (try simp at shbq)))
        go_ret2
        exact ⟨ret2 hV.out.symm hC.out.symm, (by repeat (first | assumption | exact Below.refl _ _ | exact below_box _ | refine Below.drew ?_ | refine Below.setCell ?_ (by first | (simp; done) | (simp; omega)) _ | (refine below_step (by assumption) (by first | omega | (simp; done) | (simp; omega)) ?_) | (refine Below.alloc ?_ (by first | omega | (simp; done) | (simp; omega)) _)))⟩
      · have := sJacobiSymbol_ok a n w ha hn ho
        have hk : jacOk a n = true := by simp [jacOk, ha, hn, ho]
        have hV : jacV a n = jacN a n := by simp [jacV, hk]
        have hC : jacC a n = 0 := by simp [jacC, hk]
        rw [hV, hC]
        exact this
    · have HA := Lib.hid ha
      have HN := Lib.hid hn
      have hV := Lib.hid (show jacV a n = 0 by simp [jacV, jacOk, hn])
      have hC := Lib.hid (show jacC a n = 2 by simp [jacC, jacOk, hn])
      clear ha hn
      go_enter Try.func19, Try.ntmps19
      go_wp2_with (first | (go_at_call 59; ((with_reducible refine (calls_bool (l01Is_any _ _) HA.out).mono ?_); rintro e w' ⟨rfl, rfl⟩)) | (go_at_call 50; ((with_reducible refine (calls_bool (l01In_any _ _ _ _) HN.out).mono ?_); rintro e w' ⟨rfl, rfl⟩)) | (refine wp_region_wext (by kernel_rfl) (by kernel_rfl) ?_; (repeat (go_big_quiet_step (first | (go_at_call 59; with_reducible refine calls_wext_same (calls_bool (l01Is_any _ _) HA.out)) | (go_at_call 50; with_reducible refine calls_wext_same (calls_bool (l01In_any _ _ _ _) HN.out))))); refine wpQuiet_nil ?_; intro w1_hbq hbq; replace hbq := below_of_wext hbq; obtain ⟨chbq, fhbq, shbq⟩ := bfacts2 hbq; (try simp at shbq)))
      go_ret2
      exact ⟨ret2 hV.out.symm hC.out.symm, (by repeat (first | assumption | exact Below.refl _ _ | exact below_box _ | refine Below.drew ?_ | refine Below.setCell ?_ (by first | (simp; done) | (simp; omega)) _ | (refine below_step (by assumption) (by first | omega | (simp; done) | (simp; omega)) ?_) | (refine Below.alloc ?_ (by first | omega | (simp; done) | (simp; omega)) _)))⟩
  · have HA := Lib.hid ha
    have hV := Lib.hid (show jacV a n = 0 by simp [jacV, jacOk, ha])
    have hC := Lib.hid (show jacC a n = 2 by simp [jacC, jacOk, ha])
    clear ha
    go_enter Try.func19, Try.ntmps19
    go_wp2_with (first | (go_at_call 59; ((with_reducible refine (calls_bool (l01Is_any _ _) HA.out).mono ?_); rintro e w' ⟨rfl, rfl⟩)) | (refine wp_region_wext (by kernel_rfl) (by kernel_rfl) ?_; (repeat (go_big_quiet_step (first | (go_at_call 59; with_reducible refine calls_wext_same (calls_bool (l01Is_any _ _) HA.out))))); refine wpQuiet_nil ?_; intro w1_hbq hbq; replace hbq := below_of_wext hbq; obtain ⟨chbq, fhbq, shbq⟩ := bfacts2 hbq; (try simp at shbq)))
    go_ret2
    exact ⟨ret2 hV.out.symm hC.out.symm, (by repeat (first | assumption | exact Below.refl _ _ | exact below_box _ | refine Below.drew ?_ | refine Below.setCell ?_ (by first | (simp; done) | (simp; omega)) _ | (refine below_step (by assumption) (by first | omega | (simp; done) | (simp; omega)) ?_) | (refine Below.alloc ?_ (by first | omega | (simp; done) | (simp; omega)) _)))⟩

theorem impl_any (a n : Int) (w : World) :
    Calls Try.prog 20 #[.int .i64 a, .int .i64 n] w fun e w' => e = .returned (.tuple #[.int .i64 (jacV a n), .int .i64 (jacC a n)]) ∧ Below w.heap.size w w' := by
  rcases Bool.eq_false_or_eq_true (inB a (-1000000000000) 1000000000000) with ha | ha
  · rcases Bool.eq_false_or_eq_true (inB n 1 1000000) with hn | hn
    · by_cases ho : n % 2 = 0
      · have HA := Lib.hid ha
        have HN := Lib.hid hn
        have hV := Lib.hid (show jacV a n = 0 by simp [jacV, jacOk, ho])
        have hC := Lib.hid (show jacC a n = 2 by simp [jacC, jacOk, ho])
        obtain ⟨n1, n2⟩ := inB_iff.1 hn
        have ho' : (n % 2 == 0) = true := by simpa using ho
        clear ha hn ho
        go_enter Try.func20, Try.ntmps20
        go_wp2_with (first | (go_at_call 62; ((with_reducible refine (calls_bool (isValue_any _ _) HA.out).mono ?_); rintro e w' ⟨rfl, rfl⟩)) | (go_at_call 63; ((with_reducible refine (calls_bool (isFactored_any _ _) HN.out).mono ?_); rintro e w' ⟨rfl, rfl⟩)) | (refine wp_region_wext (by kernel_rfl) (by kernel_rfl) ?_; (repeat (go_big_quiet_step (first | (go_at_call 62; with_reducible refine calls_wext_same (calls_bool (isValue_any _ _) HA.out)) | (go_at_call 63; with_reducible refine calls_wext_same (calls_bool (isFactored_any _ _) HN.out))))); refine wpQuiet_nil ?_; intro w1_hbq hbq; replace hbq := below_of_wext hbq; obtain ⟨chbq, fhbq, shbq⟩ := bfacts2 hbq; (try simp at shbq)))
        go_ret2
        exact ⟨ret2 hV.out.symm hC.out.symm, (by repeat (first | assumption | exact Below.refl _ _ | exact below_box _ | refine Below.drew ?_ | refine Below.setCell ?_ (by first | (simp; done) | (simp; omega)) _ | (refine below_step (by assumption) (by first | omega | (simp; done) | (simp; omega)) ?_) | (refine Below.alloc ?_ (by first | omega | (simp; done) | (simp; omega)) _)))⟩
      · have := JacobiSymbol_ok a n w ha hn ho
        have hk : jacOk a n = true := by simp [jacOk, ha, hn, ho]
        have hV : jacV a n = jacN a n := by simp [jacV, hk]
        have hC : jacC a n = 0 := by simp [jacC, hk]
        rw [hV, hC]
        exact this
    · have HA := Lib.hid ha
      have HN := Lib.hid hn
      have hV := Lib.hid (show jacV a n = 0 by simp [jacV, jacOk, hn])
      have hC := Lib.hid (show jacC a n = 2 by simp [jacC, jacOk, hn])
      clear ha hn
      go_enter Try.func20, Try.ntmps20
      go_wp2_with (first | (go_at_call 62; ((with_reducible refine (calls_bool (isValue_any _ _) HA.out).mono ?_); rintro e w' ⟨rfl, rfl⟩)) | (go_at_call 63; ((with_reducible refine (calls_bool (isFactored_any _ _) HN.out).mono ?_); rintro e w' ⟨rfl, rfl⟩)) | (refine wp_region_wext (by kernel_rfl) (by kernel_rfl) ?_; (repeat (go_big_quiet_step (first | (go_at_call 62; with_reducible refine calls_wext_same (calls_bool (isValue_any _ _) HA.out)) | (go_at_call 63; with_reducible refine calls_wext_same (calls_bool (isFactored_any _ _) HN.out))))); refine wpQuiet_nil ?_; intro w1_hbq hbq; replace hbq := below_of_wext hbq; obtain ⟨chbq, fhbq, shbq⟩ := bfacts2 hbq; (try simp at shbq)))
      go_ret2
      exact ⟨ret2 hV.out.symm hC.out.symm, (by repeat (first | assumption | exact Below.refl _ _ | exact below_box _ | refine Below.drew ?_ | refine Below.setCell ?_ (by first | (simp; done) | (simp; omega)) _ | (refine below_step (by assumption) (by first | omega | (simp; done) | (simp; omega)) ?_) | (refine Below.alloc ?_ (by first | omega | (simp; done) | (simp; omega)) _)))⟩
  · have HA := Lib.hid ha
    have hV := Lib.hid (show jacV a n = 0 by simp [jacV, jacOk, ha])
    have hC := Lib.hid (show jacC a n = 2 by simp [jacC, jacOk, ha])
    clear ha
    go_enter Try.func20, Try.ntmps20
    go_wp2_with (first | (go_at_call 62; ((with_reducible refine (calls_bool (isValue_any _ _) HA.out).mono ?_); rintro e w' ⟨rfl, rfl⟩)) | (refine wp_region_wext (by kernel_rfl) (by kernel_rfl) ?_; (repeat (go_big_quiet_step (first | (go_at_call 62; with_reducible refine calls_wext_same (calls_bool (isValue_any _ _) HA.out))))); refine wpQuiet_nil ?_; intro w1_hbq hbq; replace hbq := below_of_wext hbq; obtain ⟨chbq, fhbq, shbq⟩ := bfacts2 hbq; (try simp at shbq)))
    go_ret2
    exact ⟨ret2 hV.out.symm hC.out.symm, (by repeat (first | assumption | exact Below.refl _ _ | exact below_box _ | refine Below.drew ?_ | refine Below.setCell ?_ (by first | (simp; done) | (simp; omega)) _ | (refine below_step (by assumption) (by first | omega | (simp; done) | (simp; omega)) ?_) | (refine Below.alloc ?_ (by first | omega | (simp; done) | (simp; omega)) _)))⟩

theorem walk (a0 : Int) (a1 : Int) (w : World) (ha0 : -9223372036854775808 ≤ a0 ∧ a0 ≤ 9223372036854775807) (ha1 : -9223372036854775808 ≤ a1 ∧ a1 ≤ 9223372036854775807) :
    Calls Try.prog 5 #[.int .i64 a0, .int .i64 a1] w fun e w' => e = .returned (.bool true) ∧ Below w.heap.size w w' := by
  go_enter Try.func5, Try.ntmps5
  go_wp2_with (first | (go_at_call 19; ((with_reducible refine (spec_any _ _ _).mono ?_); rintro e w1_hb0 ⟨rfl, hb0⟩; obtain ⟨chb0, fhb0, shb0⟩ := bfacts2 hb0; (try simp at shb0))) | (go_at_call 20; ((with_reducible refine (impl_any _ _ _).mono ?_); rintro e w1_hb1 ⟨rfl, hb1⟩; obtain ⟨chb1, fhb1, shb1⟩ := bfacts2 hb1; (try simp at shb1))) | (refine wp_region_wext (by kernel_rfl) (by kernel_rfl) ?_; (repeat (go_big_quiet_step (first | (go_at_call 19; with_reducible refine calls_wext (spec_any _ _ _)) | (go_at_call 20; with_reducible refine calls_wext (impl_any _ _ _))))); refine wpQuiet_nil ?_; intro w1_hbq hbq; replace hbq := below_of_wext hbq; obtain ⟨chbq, fhbq, shbq⟩ := bfacts2 hbq; (try simp at shbq)))
  go_ret
  exact ⟨rfl, (by repeat (first | assumption | exact Below.refl _ _ | exact below_box _ | refine Below.drew ?_ | refine Below.setCell ?_ (by first | (simp; done) | (simp; omega)) _ | (refine below_step (by assumption) (by first | omega | (simp; done) | (simp; omega)) ?_) | (refine Below.alloc ?_ (by first | omega | (simp; done) | (simp; omega)) _)))⟩

theorem own : ownKnob Try.prog.godebug = none := by kernel_rfl
theorem laidOut : laidOutB Try.prog = true := by kernel_rfl

set_option maxRecDepth 100000 in
theorem lifted (os : Os) (started : os.Started) (H : Type) (enc : TypeId × Value → H) :
    ReturnsInHanded {} Try.checked os 5 .any (Rows.fnExactJacobiSymbolSpec.pre6 enc Try.prog Try.f5 Rows.fnExactJacobiSymbolRow.domain false) (Rows.fnExactJacobiSymbolSpec.post enc Try.prog Try.f5 false true false false) := by
  refine returnsInHanded_of_change (C := Try.checked) own started (by kernel_rfl) Try.func5
    (ChangeSpec.witness6 (enc := enc) (C := Try.checked) false ⟨#[], #[.int .i64 0, .int .i64 0], []⟩ 8 (by kernel_rfl) (by kernel_rfl) (by kernel_rfl) (by kernel_rfl)) ?_
  intro W base args ds gs before hval0 hW hcnd _
  have hval : ∀ (j : Nat) t v, Try.f5.params[j]? = some t → args[j]? = some v → Value.okWide Try.prog W .any base t v := hval0
  have hW' := hW
  obtain ⟨p, q, hA0, hV, rfl, hfz, hnd⟩ := hW
  have hA : DataW.TrodAll enc Try.prog W 0 (fun _ => true) true Try.f5.params.toList args.toList ds p := hA0
  rw [Try.params5] at hA hval
  obtain ⟨v0, vs0, d0, ds0, p0, q0, hargs, rfl, rfl, h0, r0⟩ := trodAll_cons hA
  obtain ⟨v1, vs1, d1, ds1, p1, q1, rfl, rfl, rfl, h1, r1⟩ := trodAll_cons r0
  obtain ⟨rfl, rfl, rfl⟩ := trodAll_nil r1
  obtain rfl : args = #[v0, v1] := by cases args; simp_all
  obtain ⟨rfl, rfl⟩ := trodVars_none hV
  have k0 := h0
  have lt0 : ∀ x ∈ p0, x.block < W.heap.size := by obtain ⟨m, hm⟩ := k0; exact DataW.trod_lt m _ _ _ hm
  obtain ⟨a0, rfl, _, _, wf0⟩ := open_int Try.underlying2 (hval 0 2 v0 rfl rfl) h0
  have k1 := h1
  have lt1 : ∀ x ∈ p1, x.block < W.heap.size := by obtain ⟨m, hm⟩ := k1; exact DataW.trod_lt m _ _ _ hm
  obtain ⟨a1, rfl, _, _, wf1⟩ := open_int Try.underlying2 (hval 1 2 v1 rfl rfl) h1
  clear hA0 hval0
  refine (walk a0 a1 W (bounds_i64 wf0) (bounds_i64 wf1)).mono fun e W' ⟨he, bel⟩ => ?_
  subst he
  exact ⟨_, rfl, _, _, _, [], _, [], hW', trodAll_mk1 (shut_bool Try.underlying4 _), (trodAll_cons_mk (Below.trod laidOut (by kernel_rfl) (of_decide_eq_true (by kernel_rfl)) k0 bel lt0) (trodAll_cons_mk (Below.trod laidOut (by kernel_rfl) (of_decide_eq_true (by kernel_rfl)) k1 bel lt1) trodAll_mk0)), rfl, bel.frame _, fun h => by cases h⟩

theorem over : Rows.fnExactJacobiSymbolRow.holds Try.pinned (OpenSpec.ofChange Rows.fnExactJacobiSymbolSpec) :=
  OpenClaim.holds_of_wide 5 Try.f5 rfl rfl rfl rfl rfl rfl rfl ⟨rfl, rfl, rfl, rfl, rfl⟩ rfl rfl rfl rfl rfl (by kernel_rfl) Try.func5 (by kernel_rfl)
    (of_decide_eq_true (by kernel_rfl)) (by unfold Func.isWrapper; first | (rw [if_pos (by decide +kernel)]; kernel_rfl) | (rw [if_neg (by decide +kernel)]; exact ⟨rfl, rfl⟩))
    (fun os started H enc _ => lifted os started H enc)

theorem proved : Rows.FnExactJacobiSymbolSaid := over
#print axioms proved
end Go.Proofs.Ytjampkjgapkklaa.jacobiSymbol
