/- Contracts: Bezout's numbers, inverses by a modulus. -/
import Derived.Test.YtelpnpfmedlklaaC
import Derived.LoopTactic
namespace Go.Proofs.Ytelpnpfmedlklaa
open Go.RowKit
set_option linter.unusedVariables false
set_option linter.unusedSimpArgs false

/-- Euclid's steps with what they make of the two coefficients. -/
def bzN : Nat → Int → Int → Int → Int → Int → Int → Int × Int × Int
  | 0, r, x, y, _, _, _ => (r, x, y)
  | f + 1, r, x, y, s, u, v => if s = 0 then (r, x, y) else bzN f s u v (r - r / s * s) (x - r / s * u) (y - r / s * v)
def bez (a b : Int) : Int × Int × Int := bzN (b.toNat + 1) a 1 0 b 0 1
def bezX (a b : Int) : Int := (bez a b).2.1
def bezY (a b : Int) : Int := (bez a b).2.2
/-- What the loop keeps. -/
structure BzInv (a b : Int) (r x y s u v : Int) : Prop where
  goal : ∃ f : Nat, s.toNat < f ∧ bzN f r x y s u v = bez a b
  nn : 0 ≤ r ∧ 0 ≤ s ∧ r ≤ a + b ∧ s ≤ a + b
  coef : ∃ X U Y V : Int, 0 ≤ X ∧ 0 ≤ U ∧ 0 ≤ Y ∧ 0 ≤ V ∧ X * s + U * r = b ∧ Y * s + V * r = a ∧ X ≤ b + 1 ∧ U ≤ b + 1 ∧ Y ≤ a + 1 ∧ V ≤ a + 1 ∧ ((x = X ∧ u = -U ∧ y = -Y ∧ v = V) ∨ (x = -X ∧ u = U ∧ y = Y ∧ v = -V))
theorem bz_start {a b : Int} (ha : 0 ≤ a) (hb : 0 ≤ b) : BzInv a b a 1 0 b 0 1 :=
  ⟨⟨b.toNat + 1, by omega, rfl⟩, ⟨ha, hb, by omega, by omega⟩, 1, 0, 0, 1, by omega, by omega, by omega, by omega, by omega, by omega, by omega, by omega, by omega, by omega, .inl ⟨rfl, rfl, rfl, rfl⟩⟩
theorem le_of_mul {c s b : Int} (hc : 0 ≤ c) (hs : 1 ≤ s) (h : c * s ≤ b) : c ≤ b := by
  have := Int.mul_le_mul_of_nonneg_left hs hc
  omega
theorem bz_step {a b r x y s u v : Int} (h : BzInv a b r x y s u v) (hs : s ≠ 0) (ha : 0 ≤ a) (hb : 0 ≤ b) :
    BzInv a b s u v (r - r / s * s) (x - r / s * u) (y - r / s * v) ∧ (0 ≤ r / s ∧ r / s ≤ a + b) ∧ (0 ≤ r / s * s ∧ r / s * s ≤ a + b) ∧ (-b ≤ r / s * u ∧ r / s * u ≤ b) ∧ (-a ≤ r / s * v ∧ r / s * v ≤ a) ∧ (r - r / s * s).toNat < s.toNat := by
  obtain ⟨⟨f, hf, hg⟩, ⟨n1, n2, n3, n4⟩, X, U, Y, V, x0, u0, y0, v0, e1, e2, bx, bu, by', bv, hxy⟩ := h
  have hs1 : 1 ≤ s := by omega
  have q0 : 0 ≤ r / s := Int.ediv_nonneg n1 n2
  have q1 : r / s ≤ r := Int.ediv_le_self _ n1
  have hm : r / s * s + r % s = r := Int.mul_comm s (r / s) ▸ Int.mul_ediv_add_emod r s
  have m0 := Int.emod_nonneg r hs
  have m1 := Int.emod_lt_of_pos r (show 0 < s by omega)
  have p0 : 0 ≤ r / s * s := Int.mul_nonneg q0 n2
  have er : r - r / s * s = r % s := by omega
  -- the new coefficients
  have U1 : 0 ≤ r / s * U := Int.mul_nonneg q0 u0
  have V1 : 0 ≤ r / s * V := Int.mul_nonneg q0 v0
  have E1 : U * (r - r / s * s) + (X + r / s * U) * s = b := by
    rw [Int.mul_sub, Int.add_mul, Int.mul_comm (r / s) s, ← Int.mul_assoc, Int.mul_comm (r / s) U, Int.mul_assoc U, Int.mul_assoc U, Int.mul_comm s]
    omega
  have E2 : V * (r - r / s * s) + (Y + r / s * V) * s = a := by
    rw [Int.mul_sub, Int.add_mul, Int.mul_comm (r / s) s, ← Int.mul_assoc, Int.mul_comm (r / s) V, Int.mul_assoc V, Int.mul_assoc V, Int.mul_comm s]
    omega
  have k1 : 0 ≤ U * (r - r / s * s) := Int.mul_nonneg u0 (by omega)
  have k2 : 0 ≤ V * (r - r / s * s) := Int.mul_nonneg v0 (by omega)
  have b1 : X + r / s * U ≤ b := le_of_mul (by omega) hs1 (by omega)
  have b2 : Y + r / s * V ≤ a := le_of_mul (by omega) hs1 (by omega)
  refine ⟨⟨?_, ⟨n2, by omega, n4, by omega⟩, U, X + r / s * U, V, Y + r / s * V, u0, by omega, v0, by omega, E1, E2, bu, by omega, bv, by omega, ?_⟩, ⟨q0, by omega⟩, ⟨p0, by omega⟩, ?_, ?_, by omega⟩
  · obtain ⟨g, rfl⟩ : ∃ g, f = g + 1 := ⟨f - 1, by omega⟩
    rw [bzN, if_neg hs] at hg
    exact ⟨g, by omega, hg⟩
  · rcases hxy with ⟨rfl, rfl, rfl, rfl⟩ | ⟨rfl, rfl, rfl, rfl⟩
    · right; refine ⟨rfl, ?_, rfl, ?_⟩ <;> (try simp only [Int.mul_neg]) <;> omega
    · left; refine ⟨rfl, ?_, rfl, ?_⟩ <;> (try simp only [Int.mul_neg]) <;> omega
  · rcases hxy with ⟨rfl, rfl, rfl, rfl⟩ | ⟨rfl, rfl, rfl, rfl⟩ <;> (try simp only [Int.mul_neg]) <;> omega
  · rcases hxy with ⟨rfl, rfl, rfl, rfl⟩ | ⟨rfl, rfl, rfl, rfl⟩ <;> (try simp only [Int.mul_neg]) <;> omega
theorem bz_bd {a b r x y s u v : Int} (h : BzInv a b r x y s u v) : (-b - 1 ≤ x ∧ x ≤ b + 1) ∧ (-b - 1 ≤ u ∧ u ≤ b + 1) ∧ (-a - 1 ≤ y ∧ y ≤ a + 1) ∧ (-a - 1 ≤ v ∧ v ≤ a + 1) := by
  obtain ⟨_, _, X, U, Y, V, x0, u0, y0, v0, e1, e2, bx, bu, by', bv, hxy⟩ := h
  rcases hxy with ⟨rfl, rfl, rfl, rfl⟩ | ⟨rfl, rfl, rfl, rfl⟩ <;> omega
theorem bz_end {a b r x y s u v : Int} (h : BzInv a b r x y s u v) (hs : s = 0) : bezX a b = x ∧ bezY a b = y ∧ (bez a b).1 = r := by
  obtain ⟨⟨f, hf, hg⟩, _⟩ := h
  obtain ⟨g, rfl⟩ : ∃ g, f = g + 1 := ⟨f - 1, by omega⟩
  rw [bzN, if_pos hs] at hg
  simp [bezX, bezY, ← hg]

/-- The inverse by m. -/
def invV (m a : Int) : Int := bezX a m % m
end Go.Proofs.Ytelpnpfmedlklaa
