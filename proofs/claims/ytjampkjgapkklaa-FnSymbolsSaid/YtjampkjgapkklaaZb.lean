/- Legendre symbols by the primes up to 97 are multiplicative: plain. -/
import Derived.Test.YtjampkjgapkklaaZa
namespace Go.Proofs.Ytjampkjgapkklaa
set_option linter.unusedVariables false
set_option linter.unusedSimpArgs false

theorem gens_bd : gensL.all (fun x => decide (3 ≤ x.1)) = true := by decide +kernel
theorem legV_red (p a : Int) : legV p (a % p) = legV p a := by unfold legV; rw [Int.emod_emod]
theorem legV_congr {p a b : Int} (h : a % p = b % p) : legV p a = legV p b := by rw [← legV_red p a, h, legV_red]
theorem leg_step {x : Int × Int} (hx : x ∈ gensL) (c : Int) : legV x.1 (c * x.2) = - legV x.1 c := by
  have h3 : 3 ≤ x.1 := of_decide_eq_true (List.all_eq_true.1 gens_bd x hx)
  have h0 : 0 ≤ c % x.1 := Int.emod_nonneg _ (by omega)
  have h1 : c % x.1 < x.1 := Int.emod_lt_of_pos _ (by omega)
  have hc : legV x.1 (c * x.2) = legV x.1 (c % x.1 * x.2) := legV_congr (by rw [Int.mul_emod (c % x.1), Int.emod_emod, ← Int.mul_emod])
  rw [hc, ← legV_red x.1 c]
  obtain ⟨i, hi⟩ : ∃ i : Nat, c % x.1 = i := ⟨(c % x.1).toNat, by omega⟩
  rw [hi]
  have h2 := List.all_eq_true.1 (List.all_eq_true.1 gens_leg x hx) i (List.mem_range.2 (by omega))
  rcases Bool.or_eq_true _ _ ▸ h2 with h | h
  · have h := of_decide_eq_true h
    subst h
    rw [show ((0 : Nat) : Int) * x.2 = 0 by simp]
    simp [legV]
  · exact of_decide_eq_true h
theorem orb_mul {x : Int × Int} (hx : x ∈ gensL) : ∀ (f : Nat) (y : Int), (∀ b, legV x.1 (y * b) = legV x.1 y * legV x.1 b) → ∀ z ∈ orbL x.2 x.1 f y, ∀ b, legV x.1 (z * b) = legV x.1 z * legV x.1 b
  | 0, y, _, z, hz => by simp [orbL] at hz
  | f + 1, y, hy, z, hz => by
    rw [orbL] at hz
    rcases List.mem_cons.1 hz with rfl | hz
    · exact hy
    · refine orb_mul hx f (y * x.2 % x.1) (fun b => ?_) z hz
      have e1 : legV x.1 (y * x.2 % x.1 * b) = legV x.1 (y * b * x.2) := legV_congr (by
        rw [Int.mul_emod, Int.emod_emod, ← Int.mul_emod]
        congr 1
        grind)
      rw [e1, leg_step hx, hy b, legV_red, leg_step hx]
      grind
theorem leg_mul {x : Int × Int} (hx : x ∈ gensL) (a b : Int) : legV x.1 (a * b) = legV x.1 a * legV x.1 b := by
  have h3 : 3 ≤ x.1 := of_decide_eq_true (List.all_eq_true.1 gens_bd x hx)
  have h0 : 0 ≤ a % x.1 := Int.emod_nonneg _ (by omega)
  have h1 : a % x.1 < x.1 := Int.emod_lt_of_pos _ (by omega)
  have hc : legV x.1 (a * b) = legV x.1 (a % x.1 * b) := legV_congr (by rw [Int.mul_emod (a % x.1), Int.emod_emod, ← Int.mul_emod])
  rw [hc, ← legV_red x.1 a]
  obtain ⟨i, hi⟩ : ∃ i : Nat, a % x.1 = i := ⟨(a % x.1).toNat, by omega⟩
  rw [hi]
  have h2 := List.all_eq_true.1 (List.all_eq_true.1 gens_orb x hx) i (List.mem_range.2 (by omega))
  rcases Bool.or_eq_true _ _ ▸ h2 with h | h
  · have h := of_decide_eq_true h
    subst h
    rw [show ((0 : Nat) : Int) * b = 0 by simp]
    simp [legV]
  · have h4 : (i : Int) ∈ orbL x.2 x.1 x.1.toNat 1 := by simpa using h
    have h5 : legV x.1 1 = 1 := of_decide_eq_true (List.all_eq_true.1 gens_one x hx)
    exact orb_mul hx _ 1 (fun b => by rw [h5, Int.one_mul, Int.one_mul]) _ h4 b

end Go.Proofs.Ytjampkjgapkklaa
