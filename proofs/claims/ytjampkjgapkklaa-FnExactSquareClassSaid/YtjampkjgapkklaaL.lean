/- Plain facts: the least number whose product with another one is a square. -/
import Derived.Test.YtjampkjgapkklaaI
namespace Go.Proofs.Ytjampkjgapkklaa
open Go.RowKit
set_option linter.unusedVariables false
set_option linter.unusedSimpArgs false

namespace squareClass
def clsF (p a : Int) : Nat → Int → Int
  | 0, c => c
  | f + 1, c => if clsB p a c then c else clsF p a f (c + 1)
def clsV (p a : Int) : Int := clsF p a 10000 1
def val (p a : Int) : Int := if smallB p then (if nzB a then clsV p a else 0) else 0
def code (p a : Int) : Int := if smallB p then (if nzB a then 0 else 2) else 1
/-- What the search keeps. -/
def CInv (p a c : Int) : Prop := 1 ≤ c ∧ c ≤ 9312 ∧ (∃ c0 : Int, c ≤ c0 ∧ c0 ≤ 9312 ∧ clsB p a c0 = true) ∧ ∃ f : Nat, (f : Int) + c = 10001 ∧ clsF p a f c = clsV p a
theorem cInv_step {p a c : Int} (h : CInv p a c) (hb : clsB p a c = false) : CInv p a (c + 1) := by
  obtain ⟨h1, h2, ⟨c0, h3, h4, h5⟩, f, h6, h7⟩ := h
  have hne : c ≠ c0 := fun e => by rw [e, h5] at hb; cases hb
  obtain ⟨g, rfl⟩ : ∃ g, f = g + 1 := ⟨f - 1, by omega⟩
  rw [clsF, hb] at h7
  exact ⟨by omega, by omega, ⟨c0, by omega, h4, h5⟩, g, by omega, h7⟩
theorem cInv_end {p a c : Int} (h : CInv p a c) (hb : clsB p a c = true) : c = clsV p a := by
  obtain ⟨h1, h2, _, f, h6, h7⟩ := h
  obtain ⟨g, rfl⟩ : ∃ g, f = g + 1 := ⟨f - 1, by omega⟩
  rw [clsF, hb] at h7
  exact h7
/-- A unit has an inverse by the prime. -/
theorem inv_ex {p u : Int} (hp : primeB p = true) (h97 : p ≤ 97) (hu : u % p ≠ 0) : ∃ c : Int, 1 ≤ c ∧ c < p ∧ u * c % p = 1 := by
  have h2 := (primeB_iff.1 hp).1
  obtain ⟨P, rfl⟩ := Int.eq_ofNat_of_zero_le (show 0 ≤ p by omega)
  have hb := emod_bd u P (by omega)
  obtain ⟨U, hU⟩ := Int.eq_ofNat_of_zero_le hb.1
  have hU2 : U % P ≠ 0 := by
    rw [Nat.mod_eq_of_lt (by omega)]; omega
  have hf := fermat hp hU2
  have h3 : U * (U ^ (P - 2) % P) % P = 1 := by
    rw [Nat.mul_mod_mod, ← Nat.pow_succ']
    show U ^ (P - 2 + 1) % P = 1
    rw [show P - 2 + 1 = P - 1 by omega]; exact hf
  refine ⟨((U ^ (P - 2) % P : Nat) : Int), ?_, ?_, ?_⟩
  · have : U ^ (P - 2) % P ≠ 0 := fun e => by rw [e] at h3; simp at h3
    omega
  · have := Nat.mod_lt (U ^ (P - 2)) (show P > 0 by omega); omega
  · have h5 : (U : Int) * ((U ^ (P - 2) % P : Nat) : Int) % (P : Int) = 1 := by rw [← Int.natCast_mul, ← Int.natCast_emod, h3]; rfl
    rw [Int.mul_emod, Int.emod_eq_of_lt (show 0 ≤ (U : Int) by omega) (by omega)] at h5
    rw [Int.mul_emod, hU]
    exact h5
theorem cls_ex {p a : Int} (hp : smallB p = true) (ha : a ≠ 0) : ∃ c0 : Int, 1 ≤ c0 ∧ c0 ≤ 9312 ∧ clsB p a c0 = true := by
  have h1 := small_bd hp
  have hpr : primeB p = true := by unfold smallB at hp; rw [Bool.and_eq_true] at hp; exact hp.2
  have hs := vp_spec h1.1 ha
  -- a unit c with u * c a square
  obtain ⟨c, hc1, hc2, hc3, hc4⟩ : ∃ c : Int, 1 ≤ c ∧ c ≤ 96 ∧ c % p ≠ 0 ∧ ∀ x : Int, x % (8 * p) = (a / p ^ vp p a) % (8 * p) → sqU p (x * c) = true := by
    by_cases h2 : p = 2
    · subst h2
      have h3 : (a / 2 ^ vp 2 a) % 2 = 1 := by have := hs.2.1; omega
      refine ⟨(a / 2 ^ vp 2 a) % 8, by omega, by omega, by omega, fun x hx => ?_⟩
      unfold sqU
      rw [if_pos rfl]
      have h4 : x % 8 = (a / 2 ^ vp 2 a) % 8 := by omega
      have h5 : x % 8 = 1 ∨ x % 8 = 3 ∨ x % 8 = 5 ∨ x % 8 = 7 := by omega
      rw [← h4, Int.mul_emod, Int.emod_emod]
      rcases h5 with h5 | h5 | h5 | h5 <;> rw [h5] <;> rfl
    · obtain ⟨c, k1, k2, k3⟩ := inv_ex hpr h1.2 hs.2.1
      refine ⟨c, k1, by omega, by rw [Int.emod_eq_of_lt (by omega) k2]; omega, fun x hx => ?_⟩
      unfold sqU
      rw [if_neg h2]
      have h4 : x % p = (a / p ^ vp p a) % p := by
        rw [← Int.emod_emod_of_dvd x (show p ∣ 8 * p from ⟨8, Int.mul_comm _ _⟩), hx, Int.emod_emod_of_dvd _ (show p ∣ 8 * p from ⟨8, Int.mul_comm _ _⟩)]
      have h5 : x * c % p = 1 := by rw [Int.mul_emod, h4, ← Int.mul_emod]; exact k3
      rw [legV_one (x := 1) (by rw [h5]; omega) (by omega) (by omega) (by rw [h5, Int.one_mul]; exact Int.emod_eq_of_lt (by omega) (by omega))]
      rfl
  have hvc : vp p c = 0 := vp_zero h1.1 hc3
  by_cases he : (vp p a : Int) % 2 = 0
  · refine ⟨c, hc1, by omega, ?_⟩
    rw [cls_spec hpr ha (by omega), hvc, Int.pow_zero, Int.ediv_one, hc4 _ (by rw [Int.emod_emod])]
    simp; omega
  · have h7 := vp_eq (p := p) (n := c * p) (N := c) (k := 1) h1.1 hc3 (by rw [Int.pow_succ, Int.pow_zero, Int.one_mul])
    have h8 : c * p / p ^ vp p (c * p) = c := by rw [h7, Int.pow_succ, Int.pow_zero, Int.one_mul]; exact Int.mul_ediv_cancel _ (by omega)
    have h9 : 1 ≤ c * p ∧ c * p ≤ 9312 := by
      have := Int.mul_le_mul (show c ≤ 96 by omega) h1.2 (by omega) (by omega)
      have := Int.mul_pos (show 0 < c by omega) (show 0 < p by omega)
      omega
    refine ⟨c * p, h9.1, h9.2, ?_⟩
    rw [cls_spec hpr ha (by omega), h8, h7, hc4 _ (by rw [Int.emod_emod])]
    simp; omega
theorem cInv_start {p a : Int} (hp : smallB p = true) (ha : a ≠ 0) : CInv p a 1 := by
  obtain ⟨c0, h1, h2, h3⟩ := cls_ex hp ha
  exact ⟨by omega, by omega, ⟨c0, h1, h2, h3⟩, 10000, by omega, rfl⟩
theorem mul_bd {a c : Int} (ha : -1000000000000 ≤ a ∧ a ≤ 1000000000000) (hc : 1 ≤ c ∧ c ≤ 9312) (h0 : a ≠ 0) : (-10000000000000000 ≤ a * c ∧ a * c ≤ 10000000000000000) ∧ a * c ≠ 0 := by
  have h1 := Int.mul_le_mul_of_nonneg_right ha.2 (show 0 ≤ c by omega)
  have h2 := Int.mul_le_mul_of_nonneg_right ha.1 (show 0 ≤ c by omega)
  have h3 := Int.mul_ne_zero h0 (show c ≠ 0 by omega)
  omega
end squareClass
end Go.Proofs.Ytjampkjgapkklaa
