/- Contracts: p-adic numbers. -/
import Derived.Test.YtcecmjnbhppocaaDoorB
namespace Go.Proofs.YtcecmjnbhppocaaDoor
open Go.RowKit
set_option linter.unusedVariables false
set_option linter.unusedSimpArgs false

def padicB (p v u n : Int) : Bool := smallB p && inB v (-60) 60 && (if n = 0 then u == 0 else ringB p n && inB u 0 (p ^ n.toNat - 1) && u % p != 0)


/-- What a valid p-adic number is. -/
theorem padic_iff {p v u n : Int} : padicB p v u n = true ↔ smallB p = true ∧ (-60 ≤ v ∧ v ≤ 60) ∧ ((n = 0 ∧ u = 0) ∨ (n ≠ 0 ∧ ringB p n = true ∧ (0 ≤ u ∧ u ≤ p ^ n.toNat - 1) ∧ u % p ≠ 0)) := by
  unfold padicB
  rw [Bool.and_eq_true, Bool.and_eq_true, inB_iff]
  by_cases h : n = 0
  · rw [if_pos h]; simp [h]; constructor <;> (intro h'; simp_all)
  · rw [if_neg h, Bool.and_eq_true, Bool.and_eq_true, inB_iff, bne_iff_ne]
    constructor
    · rintro ⟨⟨h1, h2⟩, ⟨h3, h4⟩, h5⟩; exact ⟨h1, h2, .inr ⟨h, h3, h4, h5⟩⟩
    · rintro ⟨h1, h2, ⟨h3, _⟩ | ⟨_, h3, h4, h5⟩⟩
      · exact absurd h3 h
      · exact ⟨⟨h1, h2⟩, ⟨h3, h4⟩, h5⟩

end Go.Proofs.YtcecmjnbhppocaaDoor
