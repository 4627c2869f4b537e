/- Contracts of the top functions that the law on symbols calls (the same as in the single laws' texts). -/
import Derived.Test.YtjampkjgapkklaaZe
import Derived.Test.YtjampkjgapkklaaNh
namespace Go.Proofs.Ytjampkjgapkklaa
open Go.RowKit
set_option linter.unusedVariables false
set_option linter.unusedSimpArgs false

namespace symbolTable
theorem spec_any {a b : Int} {w : World} : Calls Try.prog 32 #[.int .i64 a, .int .i64 b] w (RetIC (tabL a b) (badC a b) w) := by
  go_enter Try.func32, Try.ntmps32
  go_wp2_with (go_at_call 79; with_reducible refine (l16Table_any a b _).mono ?_)
  rintro _ w1 ⟨v1, rfl, o1, hb1⟩
  go_wp2
  go_ret2
  exact ⟨v1, rfl, o1, hb1⟩
theorem impl_any {a b : Int} {w : World} : Calls Try.prog 33 #[.int .i64 a, .int .i64 b] w (RetIC (tabL a b) (badC a b) w) := by
  go_enter Try.func33, Try.ntmps33
  go_wp2_with (go_at_call 80; with_reducible refine (symbolTable_any a b _).mono ?_)
  rintro _ w1 ⟨v1, rfl, o1, hb1⟩
  go_wp2
  go_ret2
  exact ⟨v1, rfl, o1, hb1⟩
end symbolTable

namespace badPrimes
theorem spec_any {a b : Int} {w : World} : Calls Try.prog 27 #[.int .i64 a, .int .i64 b] w (RetIC (badL a b) (badC a b) w) := by
  go_enter Try.func27, Try.ntmps27
  go_wp2_with (go_at_call 77; with_reducible refine (l16Bad_any a b _).mono ?_)
  rintro _ w1 ⟨v1, rfl, o1, hb1⟩
  go_wp2
  go_ret2
  exact ⟨v1, rfl, o1, hb1⟩
theorem impl_any {a b : Int} {w : World} : Calls Try.prog 28 #[.int .i64 a, .int .i64 b] w (RetIC (badL a b) (badC a b) w) := by
  go_enter Try.func28, Try.ntmps28
  go_wp2_with (go_at_call 78; with_reducible refine (badPrimes_any a b _).mono ?_)
  rintro _ w1 ⟨v1, rfl, o1, hb1⟩
  go_wp2
  go_ret2
  exact ⟨v1, rfl, o1, hb1⟩
end badPrimes

namespace hilbertSymbol
def plB (p : Int) : Bool := p == 0 || smallB p
def val (p a b : Int) : Int := if plB p then (if nzB a then (if nzB b then hilV p a b else 0) else 0) else 0
def code (p a b : Int) : Int := if plB p then (if nzB a then (if nzB b then 0 else 2) else 2) else 1
/-- The three ways of a prime: 0, a prime, none. -/
theorem ways (p : Int) : ((p == 0) = true ∧ plB p = true ∧ (p = 0 ∨ (2 ≤ p ∧ p ≤ 97))) ∨ ((p == 0) = false ∧ smallB p = true ∧ plB p = true ∧ (p = 0 ∨ (2 ≤ p ∧ p ≤ 97))) ∨ ((p == 0) = false ∧ smallB p = false ∧ plB p = false) := by
  rcases Bool.eq_false_or_eq_true (p == 0) with h | h
  · exact .inl ⟨h, by unfold plB; rw [h]; rfl, .inl (by simpa using h)⟩
  · rcases Bool.eq_false_or_eq_true (smallB p) with h2 | h2
    · exact .inr (.inl ⟨h, h2, by unfold plB; rw [h2]; simp, .inr (small_bd h2)⟩)
    · exact .inr (.inr ⟨h, h2, by unfold plB; rw [h, h2]; rfl⟩)
theorem ne_of_eq {p : Int} {b : Bool} (h : (p == 0) = b) : (p != 0) = !b := by rw [← h]; rfl

set_option maxHeartbeats 2000000 in
theorem impl_any (p a b : Int) (w : World) :
    Calls Try.prog 24 #[.int .i64 p, .int .i64 a, .int .i64 b] w fun e w' => e = .returned (.tuple #[.int .i64 (val p a b), .int .i64 (code p a b)]) ∧ Below w.heap.size w w' := by
  rcases ways p with ⟨h1, h2, h3⟩ | ⟨h1, h4, h2, h3⟩ | ⟨h1, h4, h2⟩
  · have h5 : (p != 0) = false := ne_of_eq h1
    have HP := Lib.hid h2; have H3 := Lib.hid h3
    clear h2 h3
    rcases Bool.eq_false_or_eq_true (nzB a) with ha | ha
    all_goals rcases Bool.eq_false_or_eq_true (nzB b) with hb | hb
    all_goals
      have HA := Lib.hid ha; have HB := Lib.hid hb
      clear ha hb
      go_enter Try.func24, Try.ntmps24
      go_wp2_with (first | (go_at_call 71; ((with_reducible refine (calls_bool (isNonzero_any _ _) HA.out).mono ?_); rintro e w' ⟨rfl, rfl⟩)) | (go_at_call 71; ((with_reducible refine (calls_bool (isNonzero_any _ _) HB.out).mono ?_); rintro e w' ⟨rfl, rfl⟩)) | (go_at_call 74; ((with_reducible refine (hilbert_any _ _ _ _ H3.out HA.out HB.out).mono ?_); rintro e w1_hb2 ⟨rfl, hb2⟩; obtain ⟨chb2, fhb2, shb2⟩ := bfacts2 hb2; (try simp at shb2))) | (refine wp_region_wext (by kernel_rfl) (by kernel_rfl) ?_; (repeat (go_big_quiet_step (first | (go_at_call 71; with_reducible refine calls_wext_same (calls_bool (isNonzero_any _ _) HA.out)) | (go_at_call 71; with_reducible refine calls_wext_same (calls_bool (isNonzero_any _ _) HB.out)) | (go_at_call 74; with_reducible refine calls_wext (hilbert_any _ _ _ _ H3.out HA.out HB.out))))); refine wpQuiet_nil ?_; intro w1_hbq hbq; replace hbq := below_of_wext hbq; obtain ⟨chbq, fhbq, shbq⟩ := bfacts2 hbq; (try simp at shbq)))
      go_ret2
      exact ⟨ret2 (by simp [val, HP.out, HA.out, HB.out]) (by simp [code, HP.out, HA.out, HB.out]), (by repeat (first | assumption | exact Below.refl _ _ | exact below_box _ | refine Below.drew ?_ | refine Below.setCell ?_ (by first | (simp; done) | (simp; omega)) _ | (refine below_step (by assumption) (by first | omega | (simp; done) | (simp; omega)) ?_) | (refine Below.alloc ?_ (by first | omega | (simp; done) | (simp; omega)) _)))⟩
  · have h5 : (p != 0) = true := ne_of_eq h1
    have HP := Lib.hid h2; have H3 := Lib.hid h3; have HS := Lib.hid h4
    clear h2 h3 h4
    rcases Bool.eq_false_or_eq_true (nzB a) with ha | ha
    all_goals rcases Bool.eq_false_or_eq_true (nzB b) with hb | hb
    all_goals
      have HA := Lib.hid ha; have HB := Lib.hid hb
      clear ha hb
      go_enter Try.func24, Try.ntmps24
      go_wp2_with (first | (go_at_call 70; ((with_reducible refine (calls_bool (isSmallPrime_any _ _) HS.out).mono ?_); rintro e w' ⟨rfl, rfl⟩)) | (go_at_call 71; ((with_reducible refine (calls_bool (isNonzero_any _ _) HA.out).mono ?_); rintro e w' ⟨rfl, rfl⟩)) | (go_at_call 71; ((with_reducible refine (calls_bool (isNonzero_any _ _) HB.out).mono ?_); rintro e w' ⟨rfl, rfl⟩)) | (go_at_call 74; ((with_reducible refine (hilbert_any _ _ _ _ H3.out HA.out HB.out).mono ?_); rintro e w1_hb3 ⟨rfl, hb3⟩; obtain ⟨chb3, fhb3, shb3⟩ := bfacts2 hb3; (try simp at shb3))) | (refine wp_region_wext (by kernel_rfl) (by kernel_rfl) ?_; (repeat (go_big_quiet_step (first | (go_at_call 70; with_reducible refine calls_wext_same (calls_bool (isSmallPrime_any _ _) HS.out)) | (go_at_call 71; with_reducible refine calls_wext_same (calls_bool (isNonzero_any _ _) HA.out)) | (go_at_call 71; with_reducible refine calls_wext_same (calls_bool (isNonzero_any _ _) HB.out)) | (go_at_call 74; with_reducible refine calls_wext (hilbert_any _ _ _ _ H3.out HA.out HB.out))))); refine wpQuiet_nil ?_; intro w1_hbq hbq; replace hbq := below_of_wext hbq; obtain ⟨chbq, fhbq, shbq⟩ := bfacts2 hbq; (try simp at shbq)))
      go_ret2
      exact ⟨ret2 (by simp [val, HP.out, HA.out, HB.out]) (by simp [code, HP.out, HA.out, HB.out]), (by repeat (first | assumption | exact Below.refl _ _ | exact below_box _ | refine Below.drew ?_ | refine Below.setCell ?_ (by first | (simp; done) | (simp; omega)) _ | (refine below_step (by assumption) (by first | omega | (simp; done) | (simp; omega)) ?_) | (refine Below.alloc ?_ (by first | omega | (simp; done) | (simp; omega)) _)))⟩
  · have h5 : (p != 0) = true := ne_of_eq h1
    have HP := Lib.hid h2; have HS := Lib.hid h4
    clear h2 h4
    go_enter Try.func24, Try.ntmps24
    go_wp2_with (first | (go_at_call 70; ((with_reducible refine (calls_bool (isSmallPrime_any _ _) HS.out).mono ?_); rintro e w' ⟨rfl, rfl⟩)) | (refine wp_region_wext (by kernel_rfl) (by kernel_rfl) ?_; (repeat (go_big_quiet_step (first | (go_at_call 70; with_reducible refine calls_wext_same (calls_bool (isSmallPrime_any _ _) HS.out))))); refine wpQuiet_nil ?_; intro w1_hbq hbq; replace hbq := below_of_wext hbq; obtain ⟨chbq, fhbq, shbq⟩ := bfacts2 hbq; (try simp at shbq)))
    go_ret2
    exact ⟨ret2 (by simp [val, HP.out]) (by simp [code, HP.out]), (by repeat (first | assumption | exact Below.refl _ _ | exact below_box _ | refine Below.drew ?_ | refine Below.setCell ?_ (by first | (simp; done) | (simp; omega)) _ | (refine below_step (by assumption) (by first | omega | (simp; done) | (simp; omega)) ?_) | (refine Below.alloc ?_ (by first | omega | (simp; done) | (simp; omega)) _)))⟩

set_option maxHeartbeats 2000000 in
theorem spec_any (p a b : Int) (w : World) :
    Calls Try.prog 23 #[.int .i64 p, .int .i64 a, .int .i64 b] w fun e w' => e = .returned (.tuple #[.int .i64 (val p a b), .int .i64 (code p a b)]) ∧ Below w.heap.size w w' := by
  rcases ways p with ⟨h1, h2, h3⟩ | ⟨h1, h4, h2, h3⟩ | ⟨h1, h4, h2⟩
  · have h5 : (p != 0) = false := ne_of_eq h1
    have HP := Lib.hid h2; have H3 := Lib.hid h3
    clear h2 h3
    rcases Bool.eq_false_or_eq_true (nzB a) with ha | ha
    all_goals rcases Bool.eq_false_or_eq_true (nzB b) with hb | hb
    all_goals
      have HA := Lib.hid ha; have HB := Lib.hid hb
      have HT : Hid (twoCode a b = if nzB a then (if nzB b then 0 else 2) else 2) := Lib.hid rfl
      have HT2 := Lib.hid (HT.out.trans (by rw [HA.out, HB.out]))
      clear ha hb
      go_enter Try.func23, Try.ntmps23
      go_wp2_with (first | (go_at_call 49; ((with_reducible refine (calls_int (l16Two_any _ _ _) HT2.out).mono ?_); rintro e w' ⟨rfl, rfl⟩)) | (go_at_call 73; ((with_reducible refine (l16Symbol_any _ _ _ _ H3.out HA.out HB.out).mono ?_); rintro e w1_hb1 ⟨rfl, hb1⟩; obtain ⟨chb1, fhb1, shb1⟩ := bfacts2 hb1; (try simp at shb1))) | (refine wp_region_wext (by kernel_rfl) (by kernel_rfl) ?_; (repeat (go_big_quiet_step (first | (go_at_call 49; with_reducible refine calls_wext_same (calls_int (l16Two_any _ _ _) HT2.out)) | (go_at_call 73; with_reducible refine calls_wext (l16Symbol_any _ _ _ _ H3.out HA.out HB.out))))); refine wpQuiet_nil ?_; intro w1_hbq hbq; replace hbq := below_of_wext hbq; obtain ⟨chbq, fhbq, shbq⟩ := bfacts2 hbq; (try simp at shbq)))
      go_ret2
      exact ⟨ret2 (by simp [val, HP.out, HA.out, HB.out]) (by simp [code, HP.out, HA.out, HB.out]), (by repeat (first | assumption | exact Below.refl _ _ | exact below_box _ | refine Below.drew ?_ | refine Below.setCell ?_ (by first | (simp; done) | (simp; omega)) _ | (refine below_step (by assumption) (by first | omega | (simp; done) | (simp; omega)) ?_) | (refine Below.alloc ?_ (by first | omega | (simp; done) | (simp; omega)) _)))⟩
  · have h5 : (p != 0) = true := ne_of_eq h1
    have HP := Lib.hid h2; have H3 := Lib.hid h3; have HS := Lib.hid h4
    clear h2 h3 h4
    rcases Bool.eq_false_or_eq_true (nzB a) with ha | ha
    all_goals rcases Bool.eq_false_or_eq_true (nzB b) with hb | hb
    all_goals
      have HA := Lib.hid ha; have HB := Lib.hid hb
      have HT : Hid (twoCode a b = if nzB a then (if nzB b then 0 else 2) else 2) := Lib.hid rfl
      have HT2 := Lib.hid (HT.out.trans (by rw [HA.out, HB.out]))
      clear ha hb
      go_enter Try.func23, Try.ntmps23
      go_wp2_with (first | (go_at_call 66; ((with_reducible refine (calls_bool (l01Small_any _ _) HS.out).mono ?_); rintro e w' ⟨rfl, rfl⟩)) | (go_at_call 49; ((with_reducible refine (calls_int (l16Two_any _ _ _) HT2.out).mono ?_); rintro e w' ⟨rfl, rfl⟩)) | (go_at_call 73; ((with_reducible refine (l16Symbol_any _ _ _ _ H3.out HA.out HB.out).mono ?_); rintro e w1_hb2 ⟨rfl, hb2⟩; obtain ⟨chb2, fhb2, shb2⟩ := bfacts2 hb2; (try simp at shb2))) | (refine wp_region_wext (by kernel_rfl) (by kernel_rfl) ?_; (repeat (go_big_quiet_step (first | (go_at_call 66; with_reducible refine calls_wext_same (calls_bool (l01Small_any _ _) HS.out)) | (go_at_call 49; with_reducible refine calls_wext_same (calls_int (l16Two_any _ _ _) HT2.out)) | (go_at_call 73; with_reducible refine calls_wext (l16Symbol_any _ _ _ _ H3.out HA.out HB.out))))); refine wpQuiet_nil ?_; intro w1_hbq hbq; replace hbq := below_of_wext hbq; obtain ⟨chbq, fhbq, shbq⟩ := bfacts2 hbq; (try simp at shbq)))
      go_ret2
      exact ⟨ret2 (by simp [val, HP.out, HA.out, HB.out]) (by simp [code, HP.out, HA.out, HB.out]), (by repeat (first | assumption | exact Below.refl _ _ | exact below_box _ | refine Below.drew ?_ | refine Below.setCell ?_ (by first | (simp; done) | (simp; omega)) _ | (refine below_step (by assumption) (by first | omega | (simp; done) | (simp; omega)) ?_) | (refine Below.alloc ?_ (by first | omega | (simp; done) | (simp; omega)) _)))⟩
  · have h5 : (p != 0) = true := ne_of_eq h1
    have HP := Lib.hid h2; have HS := Lib.hid h4
    clear h2 h4
    go_enter Try.func23, Try.ntmps23
    go_wp2_with (first | (go_at_call 66; ((with_reducible refine (calls_bool (l01Small_any _ _) HS.out).mono ?_); rintro e w' ⟨rfl, rfl⟩)) | (refine wp_region_wext (by kernel_rfl) (by kernel_rfl) ?_; (repeat (go_big_quiet_step (first | (go_at_call 66; with_reducible refine calls_wext_same (calls_bool (l01Small_any _ _) HS.out))))); refine wpQuiet_nil ?_; intro w1_hbq hbq; replace hbq := below_of_wext hbq; obtain ⟨chbq, fhbq, shbq⟩ := bfacts2 hbq; (try simp at shbq)))
    go_ret2
    exact ⟨ret2 (by simp [val, HP.out]) (by simp [code, HP.out]), (by repeat (first | assumption | exact Below.refl _ _ | exact below_box _ | refine Below.drew ?_ | refine Below.setCell ?_ (by first | (simp; done) | (simp; omega)) _ | (refine below_step (by assumption) (by first | omega | (simp; done) | (simp; omega)) ?_) | (refine Below.alloc ?_ (by first | omega | (simp; done) | (simp; omega)) _)))⟩
end hilbertSymbol

end Go.Proofs.Ytjampkjgapkklaa
