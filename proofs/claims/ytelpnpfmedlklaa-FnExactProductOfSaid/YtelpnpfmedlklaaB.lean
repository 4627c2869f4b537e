/- Contracts: values, remainders, primes, powers, moduli. -/
import Derived.Test.YtelpnpfmedlklaaA
namespace Go.Proofs.Ytelpnpfmedlklaa
open Go.RowKit
set_option linter.unusedVariables false
set_option linter.unusedSimpArgs false

theorem mod_any (n m : Int) (w : World) (h1 : 1 ≤ m) (h2 : m ≤ 4611686018427387903) :
    Calls Try.prog 41 #[.int .i64 n, .int .i64 m] w fun e w' => e = .returned (.int .i64 (n % m)) ∧ w = w' := by
  obtain ⟨h3, h4⟩ := tmod_bd n m h1
  go_enter Try.func41, Try.ntmps41
  go_wp2
  go_ret
  exact ⟨ret_int (tmod_mod n m h1), rfl⟩

theorem l01Mod_any (n m : Int) (w : World) (h1 : 1 ≤ m) (h2 : m ≤ 4611686018427387903) :
    Calls Try.prog 38 #[.int .i64 n, .int .i64 m] w fun e w' => e = .returned (.int .i64 (n % m)) ∧ w = w' := by
  obtain ⟨h3, h4⟩ := tmod_bd n m h1
  go_enter Try.func38, Try.ntmps38
  go_wp2
  go_ret
  exact ⟨ret_int (tmod_mod n m h1), rfl⟩

set_option maxHeartbeats 400000 in
theorem l01Prime_any (n : Int) (w : World) (hn : n ≤ 1000000) :
    Calls Try.prog 28 #[.int .i64 n] w fun e w' => e = .returned (.bool (primeB n)) ∧ w = w' := by
  by_cases h2 : 2 ≤ n
  · go_enter Try.func28, Try.ntmps28
    go_wp2
    go_loop [3] (fun i => ∃ d : Int, i = .int .i64 d ∧ PrimeInv n d) (fun i => (2000 - intOf i).toNat)
    case atStart => exact ⟨2, rfl, primeInv_start h2⟩
    case round =>
      obtain ⟨d, rfl, hinv⟩ := hrel
      have hd1 := primeInv_bound hn hinv
      have hd2 : 2 ≤ d := hinv.1
      obtain ⟨hs1, hs2⟩ := sq_bound hd2 hd1
      go_wp2
      · go_ret
        exact ⟨ret_bool (primeInv_no hinv ‹_› (by simpa using ‹(n % d == 0) = true›)).symm, rfl⟩
      · go_round
        case rel => exact ⟨d + 1, rfl, primeInv_step hinv ‹_› (by simpa using ‹(n % d == 0) = false›)⟩
        case measure => simp [intOf]; omega
      · go_ret
        exact ⟨ret_bool (primeInv_yes h2 hinv ‹_›).symm, rfl⟩
  · have hb := Lib.hid (show primeB n = false by rw [Bool.eq_false_iff]; exact fun h => h2 (primeB_iff.1 h).1)
    go_enter Try.func28, Try.ntmps28
    go_wp2
    go_ret
    exact ⟨ret_bool hb.out.symm, rfl⟩

theorem isSmallPrime_any (p : Int) (w : World) :
    Calls Try.prog 22 #[.int .i64 p] w fun e w' => e = .returned (.bool (smallB p)) ∧ w = w' := by
  by_cases h : p ≤ 97
  · have e := Lib.hid (show (inB p 2 1000000 && primeB p) = smallB p by unfold smallB inB; rw [decide_eq_true h, decide_eq_true (show p ≤ 1000000 by omega)])
    go_enter Try.func22, Try.ntmps22
    go_wp2_with (go_at_call 34; ((with_reducible refine (IsPrime_any _ _).mono ?_); rintro e w' ⟨rfl, rfl⟩))
    go_ret
    exact ⟨ret_bool e.out, rfl⟩
  · have e := Lib.hid (show smallB p = false by unfold smallB inB; rw [decide_eq_false h]; simp)
    go_enter Try.func22, Try.ntmps22
    go_wp2_with (go_at_call 34; ((with_reducible refine (IsPrime_any _ _).mono ?_); rintro e w' ⟨rfl, rfl⟩))
    go_ret
    exact ⟨ret_bool e.out.symm, rfl⟩

theorem l01Small_any (p : Int) (w : World) :
    Calls Try.prog 14 #[.int .i64 p] w fun e w' => e = .returned (.bool (smallB p)) ∧ w = w' := by
  by_cases h : inB p 2 97 = true
  · have h97 := (inB_iff.1 h).2
    go_enter Try.func14, Try.ntmps14
    go_wp2_with (first | (go_at_call 16; ((with_reducible refine (l01In_any _ _ _ _).mono ?_); rintro e w' ⟨rfl, rfl⟩)) | (go_at_call 28; ((with_reducible refine (l01Prime_any _ _ (by omega)).mono ?_); rintro e w' ⟨rfl, rfl⟩)))
    go_ret
    exact ⟨ret_bool (by unfold smallB; rw [h]; rfl), rfl⟩
  · rw [Bool.not_eq_true] at h
    go_enter Try.func14, Try.ntmps14
    go_wp2_with (first | (go_at_call 16; ((with_reducible refine (l01In_any _ _ _ _).mono ?_); rintro e w' ⟨rfl, rfl⟩)) | (go_at_call 28; ((with_reducible refine (l01Prime_any _ _ (by omega)).mono ?_); rintro e w' ⟨rfl, rfl⟩)))
    go_ret
    exact ⟨ret_bool (by unfold smallB; rw [h]; rfl), rfl⟩

/-- What the reference's modulus returns: the power, or 0 where that is too great. -/
def modV (p n : Int) : Int := if modB p n then p ^ n.toNat else 0
theorem modV_of {p n : Int} (h : modB p n = true) : modV p n = p ^ n.toNat := by unfold modV; rw [if_pos h]
theorem modV_no {p n : Int} (hp : 2 ≤ p) {k : Nat} (hk : k ≤ n.toNat) (h : 1000000000 < p ^ k) : modV p n = 0 := by
  have := pow_mono (show 1 ≤ p by omega) hk
  unfold modV modB
  rw [if_neg (by rw [decide_eq_true_eq]; omega)]

theorem pow_round {p : Int} {k : Nat} (hp1 : 2 ≤ p) (hp2 : p ≤ 97) (hm : p ^ k ≤ 1000000000) : 1 ≤ p ^ k ∧ 1 ≤ p ^ k * p ∧ p ^ k * p ≤ 97000000000 := by
  have h1 := pow_pos' (show 1 ≤ p by omega) k
  have a := Int.mul_le_mul hm hp2 (by omega) (by omega)
  have b := pow_pos' (show 1 ≤ p by omega) (k + 1)
  rw [Int.pow_succ] at b
  omega

theorem ring_no_p {p n : Int} (h : ¬ (smallB p = true ∧ 1 ≤ n)) : ringB p n = false := by
  rw [Bool.eq_false_iff]; intro hr
  have := ring_iff.1 hr
  exact h ⟨this.1, this.2.1.1⟩
theorem ring_no_40 {p n : Int} (h : 40 < n) : ringB p n = false := by
  rw [Bool.eq_false_iff]; intro hr
  have := (ring_iff.1 hr).2.1
  omega
theorem ring_no_m {p n : Int} {k : Nat} (hp : 2 ≤ p) (hk : (k : Int) ≤ n) (h : 1000000000 < p ^ k) : ringB p n = false := by
  rw [Bool.eq_false_iff]; intro hr
  have h1 := ring_iff.1 hr
  have := pow_mono (show 1 ≤ p by omega) (show k ≤ n.toNat by omega)
  omega
theorem pow40 {p : Int} (hp : 2 ≤ p) (h : p ^ 40 ≤ 1000000000) : False := by
  have h6 := pow_ge_two hp 40
  have h7 : (2 : Int) ^ 40 = 1099511627776 := by decide
  omega
theorem ring_eq (p n : Int) (hp : 2 ≤ p) (h : smallB p = true) (h4 : inB n 1 40 = true) : decide (0 < modV p n) = ringB p n := by
  unfold ringB
  rw [h, h4]
  by_cases hm : modB p n = true
  · rw [modV_of hm, hm]
    have := pow_pos' (show 1 ≤ p by omega) n.toNat
    simp; omega
  · have hm' : modB p n = false := by simpa using hm
    unfold modV
    rw [if_neg hm, hm']
    rfl

theorem ring_modB {p n : Int} (hr : ringB p n = true) : modB p n = true := decide_eq_true (ring_iff.1 hr).2.2
theorem div_bd {a b : Int} (ha : 0 ≤ a) (hb : 1 ≤ b) : 0 ≤ a / b ∧ a / b ≤ a :=
  ⟨Int.ediv_nonneg ha (by omega), Int.ediv_le_self _ ha⟩
/-- The number of units. -/
def unitsV (p n : Int) : Int := p ^ n.toNat - p ^ n.toNat / p
theorem pow_div {p : Int} (hp : 1 ≤ p) {k : Nat} (hk : 1 ≤ k) : p ^ k / p = p ^ (k - 1) ∧ p ^ k = p ^ (k - 1) * p := by
  have h : p ^ k = p ^ (k - 1) * p := by rw [← Int.pow_succ]; congr 1; omega
  exact ⟨by rw [h]; exact Int.mul_ediv_cancel _ (by omega), h⟩
theorem units_eq {p n : Int} (hp : 2 ≤ p) (hn : 1 ≤ n) : p ^ n.toNat / p * (p - 1) = unitsV p n := by
  unfold unitsV
  obtain ⟨h1, h2⟩ := pow_div (show 1 ≤ p by omega) (show 1 ≤ n.toNat by omega)
  rw [h1, h2, Int.mul_sub, Int.mul_one]
end Go.Proofs.Ytelpnpfmedlklaa
