/- Contracts: signs, squares by a prime, parts of a number, Hilbert symbols. -/
import Derived.Test.YtcecmjnbhppocaaDoorO
namespace Go.Proofs.YtcecmjnbhppocaaDoor
open Go.RowKit
set_option linter.unusedVariables false
set_option linter.unusedSimpArgs false

def signV (n : Int) : Int := if n % 2 = 0 then 1 else -1
/-- 0, 1 or -1 as p divides a, a is a square by p, or none. -/
def legV (p a : Int) : Int := if a % p = 0 then 0 else if (List.range p.toNat).any (fun x => decide (1 ≤ x) && decide ((x : Int) * x % p = a % p)) then 1 else -1
theorem legV_zero {p a : Int} (h : a % p = 0) : legV p a = 0 := by unfold legV; rw [if_pos h]
theorem legV_one {p a x : Int} (h : a % p ≠ 0) (h1 : 1 ≤ x) (h2 : x < p) (h3 : x * x % p = a % p) : legV p a = 1 := by
  unfold legV
  rw [if_neg h, if_pos]
  refine List.any_eq_true.2 ⟨x.toNat, List.mem_range.2 (by omega), ?_⟩
  rw [Int.toNat_of_nonneg (by omega)]
  simp [h3]; omega
theorem legV_neg {p a : Int} (h : a % p ≠ 0) (h3 : ∀ x : Int, 1 ≤ x → x < p → x * x % p ≠ a % p) : legV p a = -1 := by
  unfold legV
  rw [if_neg h, if_neg]
  intro hx
  obtain ⟨x, hx1, hx2⟩ := List.any_eq_true.1 hx
  rw [List.mem_range] at hx1
  simp only [Bool.and_eq_true, decide_eq_true_eq] at hx2
  exact h3 x (by omega) (by omega) hx2.2
theorem legV_mod (p a : Int) : legV p (a % p) = legV p a := by unfold legV; rw [Int.emod_emod]
theorem sub_tmod (a b p : Int) : (a - b).tmod p = 0 ↔ a % p = b % p := by
  rw [tmod_zero]; exact Int.emod_eq_emod_iff_emod_sub_eq_zero.symm

def nzB (n : Int) : Bool := inB n (-1000000000000) 1000000000000 && n != 0
theorem nz_iff {n : Int} : nzB n = true ↔ (-1000000000000 ≤ n ∧ n ≤ 1000000000000) ∧ n ≠ 0 := by unfold nzB; rw [Bool.and_eq_true, inB_iff, bne_iff_ne]

end Go.Proofs.YtcecmjnbhppocaaDoor
