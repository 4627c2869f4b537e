/- Contracts: more on p-adic numbers. -/
import Derived.Test.YtggojomooodlgaaC
import Derived.Test.YtggojomooodlgaaD
import Derived.Deep.RegionWith
import Derived.Deep.RegionHeld3
import Derived.Test.YtggojomooodlgaaT
namespace Go.Proofs.Ytggojomooodlgaa
open Go.RowKit
set_option linter.unusedVariables false
set_option linter.unusedSimpArgs false

/-- A p-adic number as a value. -/
abbrev padV (p v u n : Int) : Value := .agg #[.int .i64 p, .int .i64 v, .int .i64 u, .int .i64 n]
theorem padic_bd {p v u n : Int} (h : padicB p v u n = true) : (2 ≤ p ∧ p ≤ 97) ∧ (-60 ≤ v ∧ v ≤ 60) ∧ (0 ≤ n ∧ n ≤ 29) ∧ (0 ≤ u ∧ u ≤ 1000000000) := by
  obtain ⟨h1, h2, h3⟩ := padic_iff.1 h
  refine ⟨small_bd h1, h2, ?_⟩
  rcases h3 with ⟨h3, h4⟩ | ⟨_, h4, h5, _⟩
  · omega
  · have := ring_bd h4; omega
/-- The code of a ring and a residue. -/
def resCode (p n a : Int) : Int := if ringB p n then (if inB a 0 (p ^ n.toNat - 1) then 0 else 2) else 1
theorem l01Abs_any (n : Int) (w : World) (h1 : -9223372036854775807 ≤ n) (h2 : n ≤ 9223372036854775807) :
    Calls Try.prog 43 #[.int .i64 n] w fun e w' => e = .returned (.int .i64 n.natAbs) ∧ w = w' := by
  by_cases h : 0 ≤ n
  · go_enter Try.func43, Try.ntmps43
    go_wp2
    go_ret
    exact ⟨ret_int (by omega), rfl⟩
  · go_enter Try.func43, Try.ntmps43
    go_wp2
    go_ret
    exact ⟨ret_int (by omega), rfl⟩
theorem l01Gcd_any (a b : Int) (w : World) (h1 : -9223372036854775807 ≤ a ∧ a ≤ 9223372036854775807) (h2 : -9223372036854775807 ≤ b ∧ b ≤ 9223372036854775807) :
    Calls Try.prog 27 #[.int .i64 a, .int .i64 b] w fun e w' => e = .returned (.int .i64 (Int.gcd a b)) ∧ Below w.heap.size w w' := by
  go_enter Try.func27, Try.ntmps27
  go_wp2_with (go_at_call 43; ((with_reducible refine (l01Abs_any _ _ (by omega) (by omega)).mono ?_); rintro e w' ⟨rfl, rfl⟩))
  go_loopw [0, 1] (fun x y wr => ∃ A B : Nat, x = .int .i64 A ∧ y = .int .i64 B ∧ A ≤ 9223372036854775807 ∧ B ≤ 9223372036854775807 ∧ Nat.gcd A B = Int.gcd a b ∧ Below w.heap.size w wr) (fun _ y _ => (intOf y).toNat)
  case atStart => exact ⟨a.natAbs, b.natAbs, rfl, rfl, by omega, by omega, rfl, Below.refl _ _⟩
  case round =>
    obtain ⟨A, B, rfl, rfl, hA, hB, hg, hbel⟩ := hrel
    by_cases hB0 : B = 0
    · have HG := Lib.hid hg
      subst hB0
      clear hg
      go_wp2
      go_ret
      exact ⟨ret_int (by rw [← HG.out, Nat.gcd_zero_right]), hbel⟩
    · have hB2 : ¬ (B : Int) = 0 := by simpa using hB0
      have HG := Lib.hid (show Nat.gcd B (A % B) = Int.gcd a b by rw [← hg, Nat.gcd_comm A B, Nat.gcd_rec B A, Nat.gcd_comm])
      have hlt := Nat.mod_lt A (show B > 0 by omega)
      clear hg
      go_wp2
      go_region
      all_goals go_wp2
      all_goals go_roundw
      case rel => exact ⟨B, A % B, rfl, vint (by simp), hB, by omega, HG.out, hbel.drew⟩
      case measure => simp [intOf]; omega
end Go.Proofs.Ytggojomooodlgaa
