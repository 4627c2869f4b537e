/- Contracts: values, remainders, primes, powers, moduli. -/
import Derived.Test.YtcecmjnbhppocaaDoorA
namespace Go.Proofs.YtcecmjnbhppocaaDoor
open Go.RowKit
set_option linter.unusedVariables false
set_option linter.unusedSimpArgs false

/-- What the reference's modulus returns: the power, or 0 where that is too great. -/
def modV (p n : Int) : Int := if modB p n then p ^ n.toNat else 0
theorem modV_of {p n : Int} (h : modB p n = true) : modV p n = p ^ n.toNat := by unfold modV; rw [if_pos h]
theorem modV_no {p n : Int} (hp : 2 ≤ p) {k : Nat} (hk : k ≤ n.toNat) (h : 1000000000 < p ^ k) : modV p n = 0 := by
  have := pow_mono (show 1 ≤ p by omega) hk
  unfold modV modB
  rw [if_neg (by rw [decide_eq_true_eq]; omega)]

theorem pow_round {p : Int} {k : Nat} (hp1 : 2 ≤ p) (hp2 : p ≤ 97) (hm : p ^ k ≤ 1000000000) : 1 ≤ p ^ k ∧ 1 ≤ p ^ k * p ∧ p ^ k * p ≤ 97000000000 := by
  have h1 := pow_pos' (show 1 ≤ p by omega) k
  have a := Int.mul_le_mul hm hp2 (by omega) (by omega)
  have b := pow_pos' (show 1 ≤ p by omega) (k + 1)
  rw [Int.pow_succ] at b
  omega

theorem ring_no_p {p n : Int} (h : ¬ (smallB p = true ∧ 1 ≤ n)) : ringB p n = false := by
  rw [Bool.eq_false_iff]; intro hr
  have := ring_iff.1 hr
  exact h ⟨this.1, this.2.1.1⟩
theorem ring_no_40 {p n : Int} (h : 40 < n) : ringB p n = false := by
  rw [Bool.eq_false_iff]; intro hr
  have := (ring_iff.1 hr).2.1
  omega
theorem ring_no_m {p n : Int} {k : Nat} (hp : 2 ≤ p) (hk : (k : Int) ≤ n) (h : 1000000000 < p ^ k) : ringB p n = false := by
  rw [Bool.eq_false_iff]; intro hr
  have h1 := ring_iff.1 hr
  have := pow_mono (show 1 ≤ p by omega) (show k ≤ n.toNat by omega)
  omega
theorem pow40 {p : Int} (hp : 2 ≤ p) (h : p ^ 40 ≤ 1000000000) : False := by
  have h6 := pow_ge_two hp 40
  have h7 : (2 : Int) ^ 40 = 1099511627776 := by decide
  omega
theorem ring_eq (p n : Int) (hp : 2 ≤ p) (h : smallB p = true) (h4 : inB n 1 40 = true) : decide (0 < modV p n) = ringB p n := by
  unfold ringB
  rw [h, h4]
  by_cases hm : modB p n = true
  · rw [modV_of hm, hm]
    have := pow_pos' (show 1 ≤ p by omega) n.toNat
    simp; omega
  · have hm' : modB p n = false := by simpa using hm
    unfold modV
    rw [if_neg hm, hm']
    rfl

theorem ring_modB {p n : Int} (hr : ringB p n = true) : modB p n = true := decide_eq_true (ring_iff.1 hr).2.2
theorem div_bd {a b : Int} (ha : 0 ≤ a) (hb : 1 ≤ b) : 0 ≤ a / b ∧ a / b ≤ a :=
  ⟨Int.ediv_nonneg ha (by omega), Int.ediv_le_self _ ha⟩
/-- The number of units. -/
def unitsV (p n : Int) : Int := p ^ n.toNat - p ^ n.toNat / p
theorem pow_div {p : Int} (hp : 1 ≤ p) {k : Nat} (hk : 1 ≤ k) : p ^ k / p = p ^ (k - 1) ∧ p ^ k = p ^ (k - 1) * p := by
  have h : p ^ k = p ^ (k - 1) * p := by rw [← Int.pow_succ]; congr 1; omega
  exact ⟨by rw [h]; exact Int.mul_ediv_cancel _ (by omega), h⟩
theorem units_eq {p n : Int} (hp : 2 ≤ p) (hn : 1 ≤ n) : p ^ n.toNat / p * (p - 1) = unitsV p n := by
  unfold unitsV
  obtain ⟨h1, h2⟩ := pow_div (show 1 ≤ p by omega) (show 1 ≤ n.toNat by omega)
  rw [h1, h2, Int.mul_sub, Int.mul_one]
end Go.Proofs.YtcecmjnbhppocaaDoor
