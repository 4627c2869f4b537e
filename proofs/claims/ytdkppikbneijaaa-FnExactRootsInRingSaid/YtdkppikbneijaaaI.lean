/- Contracts: square classes and Hilbert symbols. -/
import Derived.Test.YtdkppikbneijaaaH
namespace Go.Proofs.Ytdkppikbneijaaa
open Go.RowKit
set_option linter.unusedVariables false
set_option linter.unusedSimpArgs false

/-- Is the unit u a square by p (by 8 where p is 2)? -/
def sqU (p u : Int) : Bool := if p = 2 then (u % 8 == 1) else (legV p u == 1)
/-- Is n a square of a p-adic number? -/
def sqB (p n : Int) : Bool := decide ((vp p n : Int) % 2 = 0) && sqU p (n / p ^ vp p n)

theorem quo_facts {p n : Int} (hp : 2 ≤ p) (hn : n ≠ 0) (h : -100000000000000000 ≤ n ∧ n ≤ 100000000000000000) :
    (1 ≤ p ^ vp p n ∧ p ^ vp p n ≤ 100000000000000000) ∧ (-100000000000000000 ≤ n / p ^ vp p n ∧ n / p ^ vp p n ≤ 100000000000000000) ∧ n.tdiv (p ^ vp p n) = n / p ^ vp p n ∧ (vp p n : Int) ≤ 100000000000000000 := by
  have h1 := vp_pow_le hp hn
  have h2 := quo_le (n := n) h1.1
  have h3 := vp_le hp hn
  exact ⟨⟨h1.1, by omega⟩, ⟨by omega, by omega⟩, (vp_spec hp hn).2.2, by omega⟩

theorem prime_mul_mod {p a b : Int} (hp : primeB p = true) (ha : a % p ≠ 0) (hb : b % p ≠ 0) : a * b % p ≠ 0 := by
  have h2 := (primeB_iff.1 hp).1
  obtain ⟨P, rfl⟩ := Int.eq_ofNat_of_zero_le (show 0 ≤ p by omega)
  intro h
  have h1 : (P : Int) ∣ a * b := Int.dvd_of_emod_eq_zero h
  rw [← Int.natAbs_dvd_natAbs, Int.natAbs_mul] at h1
  have h3 : ¬ P ∣ a.natAbs := fun hd => ha (Int.emod_eq_zero_of_dvd (by rw [← Int.natAbs_dvd_natAbs]; exact hd))
  have h4 : ¬ P ∣ b.natAbs := fun hd => hb (Int.emod_eq_zero_of_dvd (by rw [← Int.natAbs_dvd_natAbs]; exact hd))
  have hc := prime_coprime hp (U := a.natAbs) (fun e => h3 (Nat.dvd_of_mod_eq_zero e))
  exact h4 (hc.dvd_of_dvd_mul_left h1)
theorem vp_mul {p a b : Int} (hp : primeB p = true) (ha : a ≠ 0) (hb : b ≠ 0) : vp p (a * b) = vp p a + vp p b ∧ a * b / p ^ vp p (a * b) = (a / p ^ vp p a) * (b / p ^ vp p b) := by
  have h2 := (primeB_iff.1 hp).1
  have sa := vp_spec h2 ha
  have sb := vp_spec h2 hb
  have h3 := prime_mul_mod hp sa.2.1 sb.2.1
  have h4 : a * b = (a / p ^ vp p a) * (b / p ^ vp p b) * p ^ (vp p a + vp p b) := by
    conv => lhs; rw [sa.1, sb.1]
    rw [Int.pow_add]
    generalize a / p ^ vp p a = x
    generalize b / p ^ vp p b = y
    generalize p ^ vp p a = z
    generalize p ^ vp p b = t
    rw [Int.mul_assoc, Int.mul_left_comm z, ← Int.mul_assoc x, ← Int.mul_assoc]
  have h5 := vp_eq h2 h3 h4
  refine ⟨h5, ?_⟩
  rw [h5]
  conv => lhs; rw [h4]
  exact Int.mul_ediv_cancel _ (by have := pow_pos' (show 1 ≤ p by omega) (vp p a + vp p b); omega)
theorem sqU_congr {p x y : Int} (h8 : p = 2 → x % 8 = y % 8) (hp : x % p = y % p) : sqU p x = sqU p y := by
  unfold sqU
  by_cases h : p = 2
  · rw [if_pos h, if_pos h, h8 h]
  · rw [if_neg h, if_neg h, ← legV_mod p x, hp, legV_mod]

def clsB (p a c : Int) : Bool := sqB p (a * c)
theorem cls_spec {p a c : Int} (hp : primeB p = true) (ha : a ≠ 0) (hc : c ≠ 0) :
    clsB p a c = (decide (((vp p a : Int) + vp p c) % 2 = 0) && sqU p ((a / p ^ vp p a) % (8 * p) * (c / p ^ vp p c))) := by
  have h := vp_mul hp ha hc
  have h2 := (primeB_iff.1 hp).1
  unfold clsB sqB
  rw [h.2, h.1, Int.natCast_add]
  congr 1
  refine sqU_congr (fun e => ?_) ?_
  · subst e
    rw [Int.mul_emod, Int.mul_emod (a / 2 ^ vp 2 a % (8 * 2)), Int.emod_emod_of_dvd _ (show (8 : Int) ∣ 8 * 2 from ⟨2, rfl⟩)]
  · rw [Int.mul_emod, Int.mul_emod (a / p ^ vp p a % (8 * p)), Int.emod_emod_of_dvd _ (show p ∣ 8 * p from ⟨8, Int.mul_comm _ _⟩)]

end Go.Proofs.Ytdkppikbneijaaa
