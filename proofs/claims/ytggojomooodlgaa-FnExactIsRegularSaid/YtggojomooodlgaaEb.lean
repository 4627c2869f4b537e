/- Contracts: rational numbers, p-adic numbers of rational ones. -/
import Derived.Test.YtggojomooodlgaaOi
import Derived.Test.YtggojomooodlgaaT
import Derived.Test.YtggojomooodlgaaE
import Derived.Test.YtggojomooodlgaaH
import Derived.Test.YtggojomooodlgaaPa
namespace Go.Proofs.Ytggojomooodlgaa
open Go.RowKit
set_option linter.unusedVariables false
set_option linter.unusedSimpArgs false

theorem gc_step (a b : Int) : Int.gcd b (a.tmod b) = Int.gcd a b := by
  simp only [Int.gcd, Int.natAbs_tmod]
  rw [Nat.gcd_comm a.natAbs, Nat.gcd_rec b.natAbs a.natAbs, Nat.gcd_comm]
theorem gc_zero (a : Int) : (Int.gcd a 0 : Int) = a.natAbs := by simp [Int.gcd]
theorem tmod_lt (a : Int) {b : Int} (hb : b ≠ 0) : (a.tmod b).natAbs < b.natAbs := by
  rw [Int.natAbs_tmod]; exact Nat.mod_lt _ (by omega)
set_option maxHeartbeats 1000000 in
theorem gcd_any (a b : Int) (w : World) (ha : -1000000000000 ≤ a ∧ a ≤ 1000000000000) (hb : -1000000000000 ≤ b ∧ b ≤ 1000000000000) :
    Calls Try.prog 33 #[.int .i64 a, .int .i64 b] w fun e w' => e = .returned (.int .i64 ((Int.gcd a b : Int))) ∧ Below w.heap.size w w' := by
  go_enter Try.func33, Try.ntmps33
  go_wp2
  go_loopw [0, 1] (fun x y wr => ∃ A B : Int, x = .int .i64 A ∧ y = .int .i64 B ∧ (-1000000000000 ≤ A ∧ A ≤ 1000000000000) ∧ (-1000000000000 ≤ B ∧ B ≤ 1000000000000) ∧ Hid (Int.gcd A B = Int.gcd a b) ∧ Below w.heap.size w wr) (fun _ y _ => (intOf y).natAbs)
  case atStart => exact ⟨a, b, rfl, rfl, ha, hb, Lib.hid rfl, Below.refl _ _⟩
  case round =>
    obtain ⟨A, B, rfl, rfl, ⟨a1, a2⟩, ⟨b1, b2⟩, HG, hbel⟩ := hrel
    have HW := Lib.hid hbel
    clear hbel
    by_cases h0 : B = 0
    · subst h0
      have HE := Lib.hid (show (Int.gcd a b : Int) = A.natAbs by rw [← HG.out, gc_zero])
      go_wp2_with (go_at_call 48; ((with_reducible refine (abs_any A _ (by omega) (by omega)).mono ?_); rintro e w' ⟨rfl, rfl⟩))
      go_ret
      exact ⟨ret_int HE.out.symm, HW.out⟩
    · have hb0 : (B != 0) = true := by simpa using h0
      have hm := tmod_lt A h0
      have HN := Lib.hid (show Int.gcd B (A.tmod B) = Int.gcd a b by rw [gc_step]; exact HG.out)
      go_wp2_with (first | (refine wp_region_wext (by kernel_rfl) (by kernel_rfl) ?_; (repeat (go_big_quiet_step (first | fail))); refine wpQuiet_nil ?_; intro w1_hbq hbq; replace hbq := below_of_wext hbq; obtain ⟨chbq, fhbq, shbq⟩ := bfacts2 hbq; (try simp at shbq)))
      go_roundw
      case rel => exact ⟨_, _, rfl, rfl, ⟨b1, b2⟩, ⟨by omega, by omega⟩, HN, HW.out.trans (hbq.mono HW.out.size)⟩
      case measure => simp only [intOf]; exact hm
/-- A rational number that the program takes. -/
def ratB (a b : Int) : Bool := inB a (-1000000000000) 1000000000000 && inB b 1 1000000000000 && ((Int.gcd a b : Int) == 1)
theorem rat_bd {a b : Int} (h : ratB a b = true) : (-1000000000000 ≤ a ∧ a ≤ 1000000000000) ∧ 1 ≤ b ∧ b ≤ 1000000000000 := by
  simp only [ratB, Bool.and_eq_true] at h
  exact ⟨inB_iff.1 h.1.1, inB_iff.1 h.1.2⟩
end Go.Proofs.Ytggojomooodlgaa
