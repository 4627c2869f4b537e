/- 'laws.FnExactHilbertSymbol' returns true for all arguments: the program's HilbertSymbol and the reference's give the same. Conditions: none. -/
import Derived.Test.YtjampkjgapkklaaRows
import Derived.WalkKit
import Derived.ProofKit
import Derived.OpenShut
import Derived.ShutString
import Derived.ChangeOld
import Derived.Below
import Derived.Lib.SmallJoins
import Derived.Test.YtjampkjgapkklaaR
namespace Go.Proofs.Ytjampkjgapkklaa.hilbertSymbol
open Go.ChangeShapes Go.WideShapes Go.ChangeAt Go.RowKit
open Go.ChangeMaps (open_string shut_string)
set_option linter.unusedVariables false
set_option linter.unusedSimpArgs false

def plB (p : Int) : Bool := p == 0 || smallB p
def val (p a b : Int) : Int := if plB p then (if nzB a then (if nzB b then hilV p a b else 0) else 0) else 0
def code (p a b : Int) : Int := if plB p then (if nzB a then (if nzB b then 0 else 2) else 2) else 1
/-- The three ways of a prime: 0, a prime, none. -/
theorem ways (p : Int) : ((p == 0) = true ∧ plB p = true ∧ (p = 0 ∨ (2 ≤ p ∧ p ≤ 97))) ∨ ((p == 0) = false ∧ smallB p = true ∧ plB p = true ∧ (p = 0 ∨ (2 ≤ p ∧ p ≤ 97))) ∨ ((p == 0) = false ∧ smallB p = false ∧ plB p = false) := by
  rcases Bool.eq_false_or_eq_true (p == 0) with h | h
  · exact .inl ⟨h, by unfold plB; rw [h]; rfl, .inl (by simpa using h)⟩
  · rcases Bool.eq_false_or_eq_true (smallB p) with h2 | h2
    · exact .inr (.inl ⟨h, h2, by unfold plB; rw [h2]; simp, .inr (small_bd h2)⟩)
    · exact .inr (.inr ⟨h, h2, by unfold plB; rw [h, h2]; rfl⟩)
theorem ne_of_eq {p : Int} {b : Bool} (h : (p == 0) = b) : (p != 0) = !b := by rw [← h]; rfl

set_option maxHeartbeats 2000000 in
theorem impl_any (p a b : Int) (w : World) :
    Calls Try.prog 24 #[.int .i64 p, .int .i64 a, .int .i64 b] w fun e w' => e = .returned (.tuple #[.int .i64 (val p a b), .int .i64 (code p a b)]) ∧ Below w.heap.size w w' := by
  rcases ways p with ⟨h1, h2, h3⟩ | ⟨h1, h4, h2, h3⟩ | ⟨h1, h4, h2⟩
  · have h5 : (p != 0) = false := ne_of_eq h1
    have HP := Lib.hid h2; have H3 := Lib.hid h3
    clear h2 h3
    rcases Bool.eq_false_or_eq_true (nzB a) with ha | ha
    all_goals rcases Bool.eq_false_or_eq_true (nzB b) with hb | hb
    all_goals
      have HA := Lib.hid ha; have HB := Lib.hid hb
      clear ha hb
      go_enter Try.func24, Try.ntmps24
      go_wp2_with (first | (go_at_call 71; ((with_reducible refine (calls_bool (isNonzero_any _ _) HA.out).mono ?_); rintro e w' ⟨rfl, rfl⟩)) | (go_at_call 71; ((with_reducible refine (calls_bool (isNonzero_any _ _) HB.out).mono ?_); rintro e w' ⟨rfl, rfl⟩)) | (go_at_call 74; ((with_reducible refine (hilbert_any _ _ _ _ H3.out HA.out HB.out).mono ?_); rintro e w1_hb2 ⟨rfl, hb2⟩; obtain ⟨chb2, fhb2, shb2⟩ := bfacts2 hb2; (try simp at shb2))) | (refine wp_region_wext (by kernel_rfl) (by kernel_rfl) ?_; (repeat (go_big_quiet_step (first | (go_at_call 71; with_reducible refine calls_wext_same (calls_bool (isNonzero_any _ _) HA.out)) | (go_at_call 71; with_reducible refine calls_wext_same (calls_bool (isNonzero_any _ _) HB.out)) | (go_at_call 74; with_reducible refine calls_wext (hilbert_any _ _ _ _ H3.out HA.out HB.out))))); refine wpQuiet_nil ?_; intro w1_hbq hbq; replace hbq := below_of_wext hbq; obtain ⟨chbq, fhbq, shbq⟩ := bfacts2 hbq; (try simp at shbq)))
      go_ret2
      exact ⟨ret2 (by simp [val, HP.out, HA.out, HB.out]) (by simp [code, HP.out, HA.out, HB.out]), (by repeat (first | assumption | exact Below.refl _ _ | exact below_box _ | refine Below.drew ?_ | refine Below.setCell ?_ (by first | (simp; done) | (simp; omega)) _ | (refine below_step (by assumption) (by first | omega | (simp; done) | (simp; omega)) ?_) | (refine Below.alloc ?_ (by first | omega | (simp; done) | (simp; omega)) _)))⟩
  · have h5 : (p != 0) = true := ne_of_eq h1
    have HP := Lib.hid h2; have H3 := Lib.hid h3; have HS := Lib.hid h4
    clear h2 h3 h4
    rcases Bool.eq_false_or_eq_true (nzB a) with ha | ha
    all_goals rcases Bool.eq_false_or_eq_true (nzB b) with hb | hb
    all_goals
      have HA := Lib.hid ha; have HB := Lib.hid hb
      clear ha hb
      go_enter Try.func24, Try.ntmps24
      go_wp2_with (first | (go_at_call 70; ((with_reducible refine (calls_bool (isSmallPrime_any _ _) HS.out).mono ?_); rintro e w' ⟨rfl, rfl⟩)) | (go_at_call 71; ((with_reducible refine (calls_bool (isNonzero_any _ _) HA.out).mono ?_); rintro e w' ⟨rfl, rfl⟩)) | (go_at_call 71; ((with_reducible refine (calls_bool (isNonzero_any _ _) HB.out).mono ?_); rintro e w' ⟨rfl, rfl⟩)) | (go_at_call 74; ((with_reducible refine (hilbert_any _ _ _ _ H3.out HA.out HB.out).mono ?_); rintro e w1_hb3 ⟨rfl, hb3⟩; obtain ⟨chb3, fhb3, shb3⟩ := bfacts2 hb3; (try simp at shb3))) | (refine wp_region_wext (by kernel_rfl) (by kernel_rfl) ?_; (repeat (go_big_quiet_step (first | (go_at_call 70; with_reducible refine calls_wext_same (calls_bool (isSmallPrime_any _ _) HS.out)) | (go_at_call 71; with_reducible refine calls_wext_same (calls_bool (isNonzero_any _ _) HA.out)) | (go_at_call 71; with_reducible refine calls_wext_same (calls_bool (isNonzero_any _ _) HB.out)) | (go_at_call 74; with_reducible refine calls_wext (hilbert_any _ _ _ _ H3.out HA.out HB.out))))); refine wpQuiet_nil ?_; intro w1_hbq hbq; replace hbq := below_of_wext hbq; obtain ⟨chbq, fhbq, shbq⟩ := bfacts2 hbq; (try simp at shbq)))
      go_ret2
      exact ⟨ret2 (by simp [val, HP.out, HA.out, HB.out]) (by simp [code, HP.out, HA.out, HB.out]), (by repeat (first | assumption | exact Below.refl _ _ | exact below_box _ | refine Below.drew ?_ | refine Below.setCell ?_ (by first | (simp; done) | (simp; omega)) _ | (refine below_step (by assumption) (by first | omega | (simp; done) | (simp; omega)) ?_) | (refine Below.alloc ?_ (by first | omega | (simp; done) | (simp; omega)) _)))⟩
  · have h5 : (p != 0) = true := ne_of_eq h1
    have HP := Lib.hid h2; have HS := Lib.hid h4
    clear h2 h4
    go_enter Try.func24, Try.ntmps24
    go_wp2_with (first | (go_at_call 70; ((with_reducible refine (calls_bool (isSmallPrime_any _ _) HS.out).mono ?_); rintro e w' ⟨rfl, rfl⟩)) | (refine wp_region_wext (by kernel_rfl) (by kernel_rfl) ?_; (repeat (go_big_quiet_step (first | (go_at_call 70; with_reducible refine calls_wext_same (calls_bool (isSmallPrime_any _ _) HS.out))))); refine wpQuiet_nil ?_; intro w1_hbq hbq; replace hbq := below_of_wext hbq; obtain ⟨chbq, fhbq, shbq⟩ := bfacts2 hbq; (try simp at shbq)))
    go_ret2
    exact ⟨ret2 (by simp [val, HP.out]) (by simp [code, HP.out]), (by repeat (first | assumption | exact Below.refl _ _ | exact below_box _ | refine Below.drew ?_ | refine Below.setCell ?_ (by first | (simp; done) | (simp; omega)) _ | (refine below_step (by assumption) (by first | omega | (simp; done) | (simp; omega)) ?_) | (refine Below.alloc ?_ (by first | omega | (simp; done) | (simp; omega)) _)))⟩

set_option maxHeartbeats 2000000 in
theorem spec_any (p a b : Int) (w : World) :
    Calls Try.prog 23 #[.int .i64 p, .int .i64 a, .int .i64 b] w fun e w' => e = .returned (.tuple #[.int .i64 (val p a b), .int .i64 (code p a b)]) ∧ Below w.heap.size w w' := by
  rcases ways p with ⟨h1, h2, h3⟩ | ⟨h1, h4, h2, h3⟩ | ⟨h1, h4, h2⟩
  · have h5 : (p != 0) = false := ne_of_eq h1
    have HP := Lib.hid h2; have H3 := Lib.hid h3
    clear h2 h3
    rcases Bool.eq_false_or_eq_true (nzB a) with ha | ha
    all_goals rcases Bool.eq_false_or_eq_true (nzB b) with hb | hb
    all_goals
      have HA := Lib.hid ha; have HB := Lib.hid hb
      have HT : Hid (twoCode a b = if nzB a then (if nzB b then 0 else 2) else 2) := Lib.hid rfl
      have HT2 := Lib.hid (HT.out.trans (by rw [HA.out, HB.out]))
      clear ha hb
      go_enter Try.func23, Try.ntmps23
      go_wp2_with (first | (go_at_call 49; ((with_reducible refine (calls_int (l16Two_any _ _ _) HT2.out).mono ?_); rintro e w' ⟨rfl, rfl⟩)) | (go_at_call 73; ((with_reducible refine (l16Symbol_any _ _ _ _ H3.out HA.out HB.out).mono ?_); rintro e w1_hb1 ⟨rfl, hb1⟩; obtain ⟨chb1, fhb1, shb1⟩ := bfacts2 hb1; (try simp at shb1))) | (refine wp_region_wext (by kernel_rfl) (by kernel_rfl) ?_; (repeat (go_big_quiet_step (first | (go_at_call 49; with_reducible refine calls_wext_same (calls_int (l16Two_any _ _ _) HT2.out)) | (go_at_call 73; with_reducible refine calls_wext (l16Symbol_any _ _ _ _ H3.out HA.out HB.out))))); refine wpQuiet_nil ?_; intro w1_hbq hbq; replace hbq := below_of_wext hbq; obtain ⟨chbq, fhbq, shbq⟩ := bfacts2 hbq; (try simp at shbq)))
      go_ret2
      exact ⟨ret2 (by simp [val, HP.out, HA.out, HB.out]) (by simp [code, HP.out, HA.out, HB.out]), (by repeat (first | assumption | exact Below.refl _ _ | exact below_box _ | refine Below.drew ?_ | refine Below.setCell ?_ (by first | (simp; done) | (simp; omega)) _ | (refine below_step (by assumption) (by first | omega | (simp; done) | (simp; omega)) ?_) | (refine Below.alloc ?_ (by first | omega | (simp; done) | (simp; omega)) _)))⟩
  · have h5 : (p != 0) = true := ne_of_eq h1
    have HP := Lib.hid h2; have H3 := Lib.hid h3; have HS := Lib.hid h4
    clear h2 h3 h4
    rcases Bool.eq_false_or_eq_true (nzB a) with ha | ha
    all_goals rcases Bool.eq_false_or_eq_true (nzB b) with hb | hb
    all_goals
      have HA := Lib.hid ha; have HB := Lib.hid hb
      have HT : Hid (twoCode a b = if nzB a then (if nzB b then 0 else 2) else 2) := Lib.hid rfl
      have HT2 := Lib.hid (HT.out.trans (by rw [HA.out, HB.out]))
      clear ha hb
      go_enter Try.func23, Try.ntmps23
      go_wp2_with (first | (go_at_call 66; ((with_reducible refine (calls_bool (l01Small_any _ _) HS.out).mono ?_); rintro e w' ⟨rfl, rfl⟩)) | (go_at_call 49; ((with_reducible refine (calls_int (l16Two_any _ _ _) HT2.out).mono ?_); rintro e w' ⟨rfl, rfl⟩)) | (go_at_call 73; ((with_reducible refine (l16Symbol_any _ _ _ _ H3.out HA.out HB.out).mono ?_); rintro e w1_hb2 ⟨rfl, hb2⟩; obtain ⟨chb2, fhb2, shb2⟩ := bfacts2 hb2; (try simp at shb2))) | (refine wp_region_wext (by kernel_rfl) (by kernel_rfl) ?_; (repeat (go_big_quiet_step (first | (go_at_call 66; with_reducible refine calls_wext_same (calls_bool (l01Small_any _ _) HS.out)) | (go_at_call 49; with_reducible refine calls_wext_same (calls_int (l16Two_any _ _ _) HT2.out)) | (go_at_call 73; with_reducible refine calls_wext (l16Symbol_any _ _ _ _ H3.out HA.out HB.out))))); refine wpQuiet_nil ?_; intro w1_hbq hbq; replace hbq := below_of_wext hbq; obtain ⟨chbq, fhbq, shbq⟩ := bfacts2 hbq; (try simp at shbq)))
      go_ret2
      exact ⟨ret2 (by simp [val, HP.out, HA.out, HB.out]) (by simp [code, HP.out, HA.out, HB.out]), (by repeat (first | assumption | exact Below.refl _ _ | exact below_box _ | refine Below.drew ?_ | refine Below.setCell ?_ (by first | (simp; done) | (simp; omega)) _ | (refine below_step (by assumption) (by first | omega | (simp; done) | (simp; omega)) ?_) | (refine Below.alloc ?_ (by first | omega | (simp; done) | (simp; omega)) _)))⟩
  · have h5 : (p != 0) = true := ne_of_eq h1
    have HP := Lib.hid h2; have HS := Lib.hid h4
    clear h2 h4
    go_enter Try.func23, Try.ntmps23
    go_wp2_with (first | (go_at_call 66; ((with_reducible refine (calls_bool (l01Small_any _ _) HS.out).mono ?_); rintro e w' ⟨rfl, rfl⟩)) | (refine wp_region_wext (by kernel_rfl) (by kernel_rfl) ?_; (repeat (go_big_quiet_step (first | (go_at_call 66; with_reducible refine calls_wext_same (calls_bool (l01Small_any _ _) HS.out))))); refine wpQuiet_nil ?_; intro w1_hbq hbq; replace hbq := below_of_wext hbq; obtain ⟨chbq, fhbq, shbq⟩ := bfacts2 hbq; (try simp at shbq)))
    go_ret2
    exact ⟨ret2 (by simp [val, HP.out]) (by simp [code, HP.out]), (by repeat (first | assumption | exact Below.refl _ _ | exact below_box _ | refine Below.drew ?_ | refine Below.setCell ?_ (by first | (simp; done) | (simp; omega)) _ | (refine below_step (by assumption) (by first | omega | (simp; done) | (simp; omega)) ?_) | (refine Below.alloc ?_ (by first | omega | (simp; done) | (simp; omega)) _)))⟩

theorem walk (a0 : Int) (a1 : Int) (a2 : Int) (w : World) (ha0 : -9223372036854775808 ≤ a0 ∧ a0 ≤ 9223372036854775807) (ha1 : -9223372036854775808 ≤ a1 ∧ a1 ≤ 9223372036854775807) (ha2 : -9223372036854775808 ≤ a2 ∧ a2 ≤ 9223372036854775807) :
    Calls Try.prog 7 #[.int .i64 a0, .int .i64 a1, .int .i64 a2] w fun e w' => e = .returned (.bool true) ∧ Below w.heap.size w w' := by
  go_enter Try.func7, Try.ntmps7
  go_wp2_with (first | (go_at_call 23; ((with_reducible refine (spec_any _ _ _ _).mono ?_); rintro e w1_hb0 ⟨rfl, hb0⟩; obtain ⟨chb0, fhb0, shb0⟩ := bfacts2 hb0; (try simp at shb0))) | (go_at_call 24; ((with_reducible refine (impl_any _ _ _ _).mono ?_); rintro e w1_hb1 ⟨rfl, hb1⟩; obtain ⟨chb1, fhb1, shb1⟩ := bfacts2 hb1; (try simp at shb1))) | (refine wp_region_wext (by kernel_rfl) (by kernel_rfl) ?_; (repeat (go_big_quiet_step (first | (go_at_call 23; with_reducible refine calls_wext (spec_any _ _ _ _)) | (go_at_call 24; with_reducible refine calls_wext (impl_any _ _ _ _))))); refine wpQuiet_nil ?_; intro w1_hbq hbq; replace hbq := below_of_wext hbq; obtain ⟨chbq, fhbq, shbq⟩ := bfacts2 hbq; (try simp at shbq)))
  go_ret
  exact ⟨rfl, (by repeat (first | assumption | exact Below.refl _ _ | exact below_box _ | refine Below.drew ?_ | refine Below.setCell ?_ (by first | (simp; done) | (simp; omega)) _ | (refine below_step (by assumption) (by first | omega | (simp; done) | (simp; omega)) ?_) | (refine Below.alloc ?_ (by first | omega | (simp; done) | (simp; omega)) _)))⟩

theorem own : ownKnob Try.prog.godebug = none := by kernel_rfl
theorem laidOut : laidOutB Try.prog = true := by kernel_rfl

set_option maxRecDepth 100000 in
theorem lifted (os : Os) (started : os.Started) (H : Type) (enc : TypeId × Value → H) :
    ReturnsInHanded {} Try.checked os 7 .any (Rows.fnExactHilbertSymbolSpec.pre6 enc Try.prog Try.f7 Rows.fnExactHilbertSymbolRow.domain false) (Rows.fnExactHilbertSymbolSpec.post enc Try.prog Try.f7 false true false false) := by
  refine returnsInHanded_of_change (C := Try.checked) own started (by kernel_rfl) Try.func7
    (ChangeSpec.witness6 (enc := enc) (C := Try.checked) false ⟨#[], #[.int .i64 0, .int .i64 0, .int .i64 0], []⟩ 8 (by kernel_rfl) (by kernel_rfl) (by kernel_rfl) (by kernel_rfl)) ?_
  intro W base args ds gs before hval0 hW hcnd _
  have hval : ∀ (j : Nat) t v, Try.f7.params[j]? = some t → args[j]? = some v → Value.okWide Try.prog W .any base t v := hval0
  have hW' := hW
  obtain ⟨p, q, hA0, hV, rfl, hfz, hnd⟩ := hW
  have hA : DataW.TrodAll enc Try.prog W 0 (fun _ => true) true Try.f7.params.toList args.toList ds p := hA0
  rw [Try.params7] at hA hval
  obtain ⟨v0, vs0, d0, ds0, p0, q0, hargs, rfl, rfl, h0, r0⟩ := trodAll_cons hA
  obtain ⟨v1, vs1, d1, ds1, p1, q1, rfl, rfl, rfl, h1, r1⟩ := trodAll_cons r0
  obtain ⟨v2, vs2, d2, ds2, p2, q2, rfl, rfl, rfl, h2, r2⟩ := trodAll_cons r1
  obtain ⟨rfl, rfl, rfl⟩ := trodAll_nil r2
  obtain rfl : args = #[v0, v1, v2] := by cases args; simp_all
  obtain ⟨rfl, rfl⟩ := trodVars_none hV
  have k0 := h0
  have lt0 : ∀ x ∈ p0, x.block < W.heap.size := by obtain ⟨m, hm⟩ := k0; exact DataW.trod_lt m _ _ _ hm
  obtain ⟨a0, rfl, _, _, wf0⟩ := open_int Try.underlying2 (hval 0 2 v0 rfl rfl) h0
  have k1 := h1
  have lt1 : ∀ x ∈ p1, x.block < W.heap.size := by obtain ⟨m, hm⟩ := k1; exact DataW.trod_lt m _ _ _ hm
  obtain ⟨a1, rfl, _, _, wf1⟩ := open_int Try.underlying2 (hval 1 2 v1 rfl rfl) h1
  have k2 := h2
  have lt2 : ∀ x ∈ p2, x.block < W.heap.size := by obtain ⟨m, hm⟩ := k2; exact DataW.trod_lt m _ _ _ hm
  obtain ⟨a2, rfl, _, _, wf2⟩ := open_int Try.underlying2 (hval 2 2 v2 rfl rfl) h2
  clear hA0 hval0
  refine (walk a0 a1 a2 W (bounds_i64 wf0) (bounds_i64 wf1) (bounds_i64 wf2)).mono fun e W' ⟨he, bel⟩ => ?_
  subst he
  exact ⟨_, rfl, _, _, _, [], _, [], hW', trodAll_mk1 (shut_bool Try.underlying4 _), (trodAll_cons_mk (Below.trod laidOut (by kernel_rfl) (of_decide_eq_true (by kernel_rfl)) k0 bel lt0) (trodAll_cons_mk (Below.trod laidOut (by kernel_rfl) (of_decide_eq_true (by kernel_rfl)) k1 bel lt1) (trodAll_cons_mk (Below.trod laidOut (by kernel_rfl) (of_decide_eq_true (by kernel_rfl)) k2 bel lt2) trodAll_mk0))), rfl, bel.frame _, fun h => by cases h⟩

theorem over : Rows.fnExactHilbertSymbolRow.holds Try.pinned (OpenSpec.ofChange Rows.fnExactHilbertSymbolSpec) :=
  OpenClaim.holds_of_wide 7 Try.f7 rfl rfl rfl rfl rfl rfl rfl ⟨rfl, rfl, rfl, rfl, rfl⟩ rfl rfl rfl rfl rfl (by kernel_rfl) Try.func7 (by kernel_rfl)
    (of_decide_eq_true (by kernel_rfl)) (by unfold Func.isWrapper; first | (rw [if_pos (by decide +kernel)]; kernel_rfl) | (rw [if_neg (by decide +kernel)]; exact ⟨rfl, rfl⟩))
    (fun os started H enc _ => lifted os started H enc)

theorem proved : Rows.FnExactHilbertSymbolSaid := over
#print axioms proved
end Go.Proofs.Ytjampkjgapkklaa.hilbertSymbol
