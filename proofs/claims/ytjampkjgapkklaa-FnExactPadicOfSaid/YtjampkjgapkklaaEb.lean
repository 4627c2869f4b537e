/- Contracts: rational numbers, p-adic numbers of rational ones. -/
import Derived.Test.YtjampkjgapkklaaOi
import Derived.Test.YtjampkjgapkklaaT
import Derived.Test.YtjampkjgapkklaaE
import Derived.Test.YtjampkjgapkklaaH
import Derived.Test.YtjampkjgapkklaaPa
namespace Go.Proofs.Ytjampkjgapkklaa
open Go.RowKit
set_option linter.unusedVariables false
set_option linter.unusedSimpArgs false

theorem gc_step (a b : Int) : Int.gcd b (a.tmod b) = Int.gcd a b := by
  simp only [Int.gcd, Int.natAbs_tmod]
  rw [Nat.gcd_comm a.natAbs, Nat.gcd_rec b.natAbs a.natAbs, Nat.gcd_comm]
theorem gc_zero (a : Int) : (Int.gcd a 0 : Int) = a.natAbs := by simp [Int.gcd]
theorem tmod_lt (a : Int) {b : Int} (hb : b ≠ 0) : (a.tmod b).natAbs < b.natAbs := by
  rw [Int.natAbs_tmod]; exact Nat.mod_lt _ (by omega)
set_option maxHeartbeats 1000000 in
theorem gcd_any (a b : Int) (w : World) (ha : -1000000000000 ≤ a ∧ a ≤ 1000000000000) (hb : -1000000000000 ≤ b ∧ b ≤ 1000000000000) :
    Calls Try.prog 116 #[.int .i64 a, .int .i64 b] w fun e w' => e = .returned (.int .i64 ((Int.gcd a b : Int))) ∧ Below w.heap.size w w' := by
  go_enter Try.func116, Try.ntmps116
  go_wp2
  go_loopw [0, 1] (fun x y wr => ∃ A B : Int, x = .int .i64 A ∧ y = .int .i64 B ∧ (-1000000000000 ≤ A ∧ A ≤ 1000000000000) ∧ (-1000000000000 ≤ B ∧ B ≤ 1000000000000) ∧ Hid (Int.gcd A B = Int.gcd a b) ∧ Below w.heap.size w wr) (fun _ y _ => (intOf y).natAbs)
  case atStart => exact ⟨a, b, rfl, rfl, ha, hb, Lib.hid rfl, Below.refl _ _⟩
  case round =>
    obtain ⟨A, B, rfl, rfl, ⟨a1, a2⟩, ⟨b1, b2⟩, HG, hbel⟩ := hrel
    have HW := Lib.hid hbel
    clear hbel
    by_cases h0 : B = 0
    · subst h0
      have HE := Lib.hid (show (Int.gcd a b : Int) = A.natAbs by rw [← HG.out, gc_zero])
      go_wp2_with (go_at_call 110; ((with_reducible refine (abs_any A _ (by omega) (by omega)).mono ?_); rintro e w' ⟨rfl, rfl⟩))
      go_ret
      exact ⟨ret_int HE.out.symm, HW.out⟩
    · have hb0 : (B != 0) = true := by simpa using h0
      have hm := tmod_lt A h0
      have HN := Lib.hid (show Int.gcd B (A.tmod B) = Int.gcd a b by rw [gc_step]; exact HG.out)
      go_wp2_with (first | (refine wp_region_wext (by kernel_rfl) (by kernel_rfl) ?_; (repeat (go_big_quiet_step (first | fail))); refine wpQuiet_nil ?_; intro w1_hbq hbq; replace hbq := below_of_wext hbq; obtain ⟨chbq, fhbq, shbq⟩ := bfacts2 hbq; (try simp at shbq)))
      go_roundw
      case rel => exact ⟨_, _, rfl, rfl, ⟨b1, b2⟩, ⟨by omega, by omega⟩, HN, HW.out.trans (hbq.mono HW.out.size)⟩
      case measure => simp only [intOf]; exact hm
/-- A rational number that the program takes. -/
def ratB (a b : Int) : Bool := inB a (-1000000000000) 1000000000000 && inB b 1 1000000000000 && ((Int.gcd a b : Int) == 1)
theorem rat_bd {a b : Int} (h : ratB a b = true) : (-1000000000000 ≤ a ∧ a ≤ 1000000000000) ∧ 1 ≤ b ∧ b ≤ 1000000000000 := by
  simp only [ratB, Bool.and_eq_true] at h
  exact ⟨inB_iff.1 h.1.1, inB_iff.1 h.1.2⟩
set_option maxHeartbeats 1000000 in
theorem IsRational_any (a b : Int) (w : World) :
    Calls Try.prog 91 #[.agg #[.int .i64 a, .int .i64 b]] w fun e w' => e = .returned (.bool (ratB a b)) ∧ Below w.heap.size w w' := by
  rcases Bool.eq_false_or_eq_true (inB a (-1000000000000) 1000000000000) with h1 | h1
  · obtain ⟨a1, a2⟩ := inB_iff.1 h1
    have H1 := Lib.hid h1
    rcases Bool.eq_false_or_eq_true (inB b 1 1000000000000) with h2 | h2
    · obtain ⟨b1, b2⟩ := inB_iff.1 h2
      have H2 := Lib.hid h2
      clear h1 h2
      go_enter Try.func91, Try.ntmps91
      go_wp2_with (first | (go_at_call 62; ((with_reducible refine (calls_bool (isValue_any _ _) H1.out).mono ?_); rintro e w' ⟨rfl, rfl⟩)) | (go_at_call 52; ((with_reducible refine (calls_bool (within_any _ _ _ _) H2.out).mono ?_); rintro e w' ⟨rfl, rfl⟩)) | (go_at_call 116; ((with_reducible refine (gcd_any _ _ _ ⟨by omega, by omega⟩ ⟨by omega, by omega⟩).mono ?_); rintro e w1_hb2 ⟨rfl, hb2⟩; obtain ⟨chb2, fhb2, shb2⟩ := bfacts2 hb2; (try simp at shb2))) | (refine wp_region_wext (by kernel_rfl) (by kernel_rfl) ?_; (repeat (go_big_quiet_step (first | (go_at_call 62; with_reducible refine calls_wext_same (calls_bool (isValue_any _ _) H1.out)) | (go_at_call 52; with_reducible refine calls_wext_same (calls_bool (within_any _ _ _ _) H2.out)) | (go_at_call 116; with_reducible refine calls_wext (gcd_any _ _ _ ⟨by omega, by omega⟩ ⟨by omega, by omega⟩))))); refine wpQuiet_nil ?_; intro w1_hbq hbq; replace hbq := below_of_wext hbq; obtain ⟨chbq, fhbq, shbq⟩ := bfacts2 hbq; (try simp at shbq)))
      go_ret
      exact ⟨ret_bool (by simp [ratB, H1.out, H2.out]), (by repeat (first | assumption | exact Below.refl _ _ | exact below_box _ | refine Below.drew ?_ | refine Below.setCell ?_ (by first | (simp; done) | (simp; omega)) _ | (refine below_step (by assumption) (by first | omega | (simp; done) | (simp; omega)) ?_) | (refine Below.alloc ?_ (by first | omega | (simp; done) | (simp; omega)) _)))⟩
    · have H2 := Lib.hid h2
      clear h1 h2
      go_enter Try.func91, Try.ntmps91
      go_wp2_with (first | (go_at_call 62; ((with_reducible refine (calls_bool (isValue_any _ _) H1.out).mono ?_); rintro e w' ⟨rfl, rfl⟩)) | (go_at_call 52; ((with_reducible refine (calls_bool (within_any _ _ _ _) H2.out).mono ?_); rintro e w' ⟨rfl, rfl⟩)) | (refine wp_region_wext (by kernel_rfl) (by kernel_rfl) ?_; (repeat (go_big_quiet_step (first | (go_at_call 62; with_reducible refine calls_wext_same (calls_bool (isValue_any _ _) H1.out)) | (go_at_call 52; with_reducible refine calls_wext_same (calls_bool (within_any _ _ _ _) H2.out))))); refine wpQuiet_nil ?_; intro w1_hbq hbq; replace hbq := below_of_wext hbq; obtain ⟨chbq, fhbq, shbq⟩ := bfacts2 hbq; (try simp at shbq)))
      go_ret
      exact ⟨ret_bool (by simp [ratB, H1.out, H2.out]), (by repeat (first | assumption | exact Below.refl _ _ | exact below_box _ | refine Below.drew ?_ | refine Below.setCell ?_ (by first | (simp; done) | (simp; omega)) _ | (refine below_step (by assumption) (by first | omega | (simp; done) | (simp; omega)) ?_) | (refine Below.alloc ?_ (by first | omega | (simp; done) | (simp; omega)) _)))⟩
  · have H1 := Lib.hid h1
    clear h1
    go_enter Try.func91, Try.ntmps91
    go_wp2_with (first | (go_at_call 62; ((with_reducible refine (calls_bool (isValue_any _ _) H1.out).mono ?_); rintro e w' ⟨rfl, rfl⟩)) | (refine wp_region_wext (by kernel_rfl) (by kernel_rfl) ?_; (repeat (go_big_quiet_step (first | (go_at_call 62; with_reducible refine calls_wext_same (calls_bool (isValue_any _ _) H1.out))))); refine wpQuiet_nil ?_; intro w1_hbq hbq; replace hbq := below_of_wext hbq; obtain ⟨chbq, fhbq, shbq⟩ := bfacts2 hbq; (try simp at shbq)))
    go_ret
    exact ⟨ret_bool (by simp [ratB, H1.out]), (by repeat (first | assumption | exact Below.refl _ _ | exact below_box _ | refine Below.drew ?_ | refine Below.setCell ?_ (by first | (simp; done) | (simp; omega)) _ | (refine below_step (by assumption) (by first | omega | (simp; done) | (simp; omega)) ?_) | (refine Below.alloc ?_ (by first | omega | (simp; done) | (simp; omega)) _)))⟩
set_option maxHeartbeats 1000000 in
theorem sIsRational_any (a b : Int) (w : World) :
    Calls Try.prog 88 #[.agg #[.int .i64 a, .int .i64 b]] w fun e w' => e = .returned (.bool (ratB a b)) ∧ Below w.heap.size w w' := by
  rcases Bool.eq_false_or_eq_true (inB a (-1000000000000) 1000000000000) with h1 | h1
  · obtain ⟨a1, a2⟩ := inB_iff.1 h1
    have H1 := Lib.hid h1
    rcases Bool.eq_false_or_eq_true (inB b 1 1000000000000) with h2 | h2
    · obtain ⟨b1, b2⟩ := inB_iff.1 h2
      have H2 := Lib.hid h2
      clear h1 h2
      go_enter Try.func88, Try.ntmps88
      go_wp2_with (first | (go_at_call 59; ((with_reducible refine (calls_bool (l01Is_any _ _) H1.out).mono ?_); rintro e w' ⟨rfl, rfl⟩)) | (go_at_call 50; ((with_reducible refine (calls_bool (l01In_any _ _ _ _) H2.out).mono ?_); rintro e w' ⟨rfl, rfl⟩)) | (go_at_call 114; ((with_reducible refine (l01Gcd_any _ _ _ ⟨by omega, by omega⟩ ⟨by omega, by omega⟩).mono ?_); rintro e w1_hb2 ⟨rfl, hb2⟩; obtain ⟨chb2, fhb2, shb2⟩ := bfacts2 hb2; (try simp at shb2))) | (refine wp_region_wext (by kernel_rfl) (by kernel_rfl) ?_; (repeat (go_big_quiet_step (first | (go_at_call 59; with_reducible refine calls_wext_same (calls_bool (l01Is_any _ _) H1.out)) | (go_at_call 50; with_reducible refine calls_wext_same (calls_bool (l01In_any _ _ _ _) H2.out)) | (go_at_call 114; with_reducible refine calls_wext (l01Gcd_any _ _ _ ⟨by omega, by omega⟩ ⟨by omega, by omega⟩))))); refine wpQuiet_nil ?_; intro w1_hbq hbq; replace hbq := below_of_wext hbq; obtain ⟨chbq, fhbq, shbq⟩ := bfacts2 hbq; (try simp at shbq)))
      go_ret
      exact ⟨ret_bool (by simp [ratB, H1.out, H2.out]), (by repeat (first | assumption | exact Below.refl _ _ | exact below_box _ | refine Below.drew ?_ | refine Below.setCell ?_ (by first | (simp; done) | (simp; omega)) _ | (refine below_step (by assumption) (by first | omega | (simp; done) | (simp; omega)) ?_) | (refine Below.alloc ?_ (by first | omega | (simp; done) | (simp; omega)) _)))⟩
    · have H2 := Lib.hid h2
      clear h1 h2
      go_enter Try.func88, Try.ntmps88
      go_wp2_with (first | (go_at_call 59; ((with_reducible refine (calls_bool (l01Is_any _ _) H1.out).mono ?_); rintro e w' ⟨rfl, rfl⟩)) | (go_at_call 50; ((with_reducible refine (calls_bool (l01In_any _ _ _ _) H2.out).mono ?_); rintro e w' ⟨rfl, rfl⟩)) | (refine wp_region_wext (by kernel_rfl) (by kernel_rfl) ?_; (repeat (go_big_quiet_step (first | (go_at_call 59; with_reducible refine calls_wext_same (calls_bool (l01Is_any _ _) H1.out)) | (go_at_call 50; with_reducible refine calls_wext_same (calls_bool (l01In_any _ _ _ _) H2.out))))); refine wpQuiet_nil ?_; intro w1_hbq hbq; replace hbq := below_of_wext hbq; obtain ⟨chbq, fhbq, shbq⟩ := bfacts2 hbq; (try simp at shbq)))
      go_ret
      exact ⟨ret_bool (by simp [ratB, H1.out, H2.out]), (by repeat (first | assumption | exact Below.refl _ _ | exact below_box _ | refine Below.drew ?_ | refine Below.setCell ?_ (by first | (simp; done) | (simp; omega)) _ | (refine below_step (by assumption) (by first | omega | (simp; done) | (simp; omega)) ?_) | (refine Below.alloc ?_ (by first | omega | (simp; done) | (simp; omega)) _)))⟩
  · have H1 := Lib.hid h1
    clear h1
    go_enter Try.func88, Try.ntmps88
    go_wp2_with (first | (go_at_call 59; ((with_reducible refine (calls_bool (l01Is_any _ _) H1.out).mono ?_); rintro e w' ⟨rfl, rfl⟩)) | (refine wp_region_wext (by kernel_rfl) (by kernel_rfl) ?_; (repeat (go_big_quiet_step (first | (go_at_call 59; with_reducible refine calls_wext_same (calls_bool (l01Is_any _ _) H1.out))))); refine wpQuiet_nil ?_; intro w1_hbq hbq; replace hbq := below_of_wext hbq; obtain ⟨chbq, fhbq, shbq⟩ := bfacts2 hbq; (try simp at shbq)))
    go_ret
    exact ⟨ret_bool (by simp [ratB, H1.out]), (by repeat (first | assumption | exact Below.refl _ _ | exact below_box _ | refine Below.drew ?_ | refine Below.setCell ?_ (by first | (simp; done) | (simp; omega)) _ | (refine below_step (by assumption) (by first | omega | (simp; done) | (simp; omega)) ?_) | (refine Below.alloc ?_ (by first | omega | (simp; done) | (simp; omega)) _)))⟩

end Go.Proofs.Ytjampkjgapkklaa
