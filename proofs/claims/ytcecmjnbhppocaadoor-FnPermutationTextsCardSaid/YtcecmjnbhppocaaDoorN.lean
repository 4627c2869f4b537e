/- Plain facts on numbers: prime powers of a number, Legendre symbols. No program in sight but for the imports. -/
import Derived.Test.YtcecmjnbhppocaaDoorG
namespace Go.Proofs.YtcecmjnbhppocaaDoor
open Go.RowKit
set_option linter.unusedVariables false
set_option linter.unusedSimpArgs false

/-! ### the prime powers of a number, from p on -/
def factF : Nat → Int → Int → List (Int × Int)
  | 0, _, _ => []
  | f + 1, p, n => if n ≤ 1 then [] else if n < p * p then [(n, 1)] else if n % p = 0 then (p, (vp p n : Int)) :: factF f (p + 1) (n / p ^ vp p n) else factF f (p + 1) n
def factL (n : Int) : List (Int × Int) := factF (n.toNat + 2) 2 n

theorem vp_pos {p n : Int} (hp : 2 ≤ p) (hn : n ≠ 0) (hd : n % p = 0) : 1 ≤ vp p n := by
  obtain ⟨N, k, h1, h2⟩ := vp_ex hp n.natAbs n hn (Nat.le_refl _)
  rw [vp_eq hp h1 h2]
  cases k with
  | zero => rw [Int.pow_zero, Int.mul_one] at h2; rw [h2] at hd; exact absurd hd h1
  | succ k => omega
theorem vp_zero {p n : Int} (hp : 2 ≤ p) (hd : n % p ≠ 0) : vp p n = 0 := vp_eq hp hd (by simp)
theorem vp_self {n : Int} (hn : 2 ≤ n) : vp n n = 1 := vp_eq (N := 1) hn (by rw [Int.emod_eq_of_lt (by omega) (by omega)]; omega) (by rw [Int.pow_succ, Int.pow_zero]; omega)
/-- What is left of a positive number is positive, and no greater. -/
theorem quo_pos {p n : Int} (hp : 2 ≤ p) (hn : 1 ≤ n) : 1 ≤ n / p ^ vp p n ∧ n / p ^ vp p n ≤ n := by
  have h := vp_spec hp (show n ≠ 0 by omega)
  have h1 := vp_pow_le hp (show n ≠ 0 by omega)
  have h2 := div_bd (show 0 ≤ n by omega) h1.1
  refine ⟨?_, h2.2⟩
  apply Decidable.byContradiction
  intro h3
  have h4 : n / p ^ vp p n = 0 := by omega
  have := h.1
  rw [h4, Int.zero_mul] at this
  omega

/-- What the loops over the primes keep: behind the list so far comes the list from p on. -/
def FInv (n0 p n : Int) (L : List (Int × Int)) : Prop := 2 ≤ p ∧ 1 ≤ n ∧ n ≤ n0 ∧ (p ≤ n0 + 2 ∧ (L.length : Int) + 2 ≤ p) ∧ ∃ f : Nat, n0 + 4 ≤ f + p ∧ L ++ factF f p n = factL n0
theorem fInv_start {n : Int} (hn : 1 ≤ n) : FInv n 2 n [] := ⟨by omega, hn, by omega, ⟨by omega, by simp⟩, n.toNat + 2, by omega, rfl⟩
theorem fInv_done {n0 p n : Int} {L : List (Int × Int)} (h : FInv n0 p n L) (hn : n ≤ 1) : L = factL n0 := by
  obtain ⟨_, _, _, _, f, hf, he⟩ := h
  cases f with
  | zero => simpa [factF] using he
  | succ f => rw [factF, if_pos hn, List.append_nil] at he; exact he
theorem sq_le {p : Int} (hp : 2 ≤ p) {n : Int} (h : p * p ≤ n) : 2 * p ≤ n := by
  have := Int.mul_le_mul_of_nonneg_right hp (show 0 ≤ p by omega)
  omega
theorem fInv_last {n0 p n : Int} {L : List (Int × Int)} (h : FInv n0 p n L) (hn : 1 < n) (hp : n < p * p) : L ++ [(n, 1)] = factL n0 := by
  obtain ⟨h1, h2, h3, h4, f, hf, he⟩ := h
  cases f with
  | zero => omega
  | succ f => rw [factF, if_neg (by omega), if_pos hp] at he; exact he
theorem fInv_no {n0 p n : Int} {L : List (Int × Int)} (h : FInv n0 p n L) (hp : p * p ≤ n) (hd : n % p ≠ 0) : FInv n0 (p + 1) n L := by
  obtain ⟨h1, h2, h3, h4, f, hf, he⟩ := h
  have := sq_le h1 hp
  obtain ⟨f, rfl⟩ : ∃ g, f = g + 1 := ⟨f - 1, by omega⟩
  rw [factF, if_neg (by omega), if_neg (by omega), if_neg hd] at he
  exact ⟨by omega, h2, h3, by omega, f, by omega, he⟩
theorem fInv_yes {n0 p n : Int} {L : List (Int × Int)} (h : FInv n0 p n L) (hp : p * p ≤ n) (hd : n % p = 0) : FInv n0 (p + 1) (n / p ^ vp p n) (L ++ [(p, (vp p n : Int))]) := by
  obtain ⟨h1, h2, h3, h4, f, hf, he⟩ := h
  have := sq_le h1 hp
  obtain ⟨q1, q2⟩ := quo_pos h1 h2
  obtain ⟨f, rfl⟩ : ∃ g, f = g + 1 := ⟨f - 1, by omega⟩
  rw [factF, if_neg (by omega), if_neg (by omega), if_pos hd] at he
  exact ⟨by omega, q1, by omega, ⟨by omega, by rw [List.length_append]; simp; omega⟩, f, by omega, by rw [List.append_assoc]; exact he⟩

end Go.Proofs.YtcecmjnbhppocaaDoor
