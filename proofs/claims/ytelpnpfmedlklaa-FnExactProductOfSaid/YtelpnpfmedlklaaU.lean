/- Contracts: permutations. -/
import Derived.Test.YtelpnpfmedlklaaS
import Derived.Deep.RegionLaw
namespace Go.Proofs.Ytelpnpfmedlklaa
open Go.RowKit
set_option linter.unusedVariables false
set_option linter.unusedSimpArgs false

/-- Place k holds a number of the list's range that stands at no earlier place. -/
def permAt (zs : List Int) (k : Nat) : Bool := inB (el zs k) 0 ((zs.length : Int) - 1) && !hasL (zs.take k) (el zs k)
def permB (zs : List Int) : Bool := (List.range zs.length).all (permAt zs) && inB zs.length 1 6
theorem permB_no {zs : List Int} {k : Nat} (hk : k < zs.length) (h : permAt zs k = false) : permB zs = false := by
  rw [Bool.eq_false_iff]
  intro hp
  simp only [permB, Bool.and_eq_true, List.all_eq_true] at hp
  have := hp.1 k (List.mem_range.2 hk)
  rw [h] at this
  cases this
theorem permB_yes {zs : List Int} (h : ∀ j, j < zs.length → permAt zs j = true) : permB zs = inB zs.length 1 6 := by
  have : (List.range zs.length).all (permAt zs) = true := by
    rw [List.all_eq_true]
    exact fun x hx => h x (List.mem_range.1 hx)
  simp [permB, this]
theorem permAt_true {zs : List Int} {k : Nat} (h : inB (el zs k) 0 ((zs.length : Int) - 1) = true) (h2 : hasL (zs.take k) (el zs k) = false) : permAt zs k = true := by simp [permAt, h, h2]

theorem permB_bd {zs : List Int} (h : permB zs = true) : 1 ≤ zs.length ∧ zs.length ≤ 6 ∧ ∀ k, k < zs.length → 0 ≤ el zs k ∧ el zs k < zs.length := by
  simp only [permB, Bool.and_eq_true, List.all_eq_true] at h
  obtain ⟨h1, h2⟩ := h
  have h3 := inB_iff.1 h2
  refine ⟨by omega, by omega, fun k hk => ?_⟩
  have h4 := h1 k (List.mem_range.2 hk)
  simp only [permAt, Bool.and_eq_true] at h4
  have := inB_iff.1 h4.1
  omega

/-- The inverse, filled in up to place k. -/
def invN (zs : List Int) : Nat → List Int
  | 0 => List.replicate zs.length 0
  | k + 1 => (invN zs k).set (el zs k).toNat k
theorem invN_len (zs : List Int) : ∀ k, (invN zs k).length = zs.length
  | 0 => by simp [invN]
  | k + 1 => by rw [invN, List.length_set, invN_len zs k]
def invL (zs : List Int) : List Int := invN zs zs.length

/-- The product's first k numbers. -/
def prodN (a b : List Int) : Nat → List Int
  | 0 => []
  | k + 1 => prodN a b k ++ [el a (el b k).toNat]
theorem prodN_len (a b : List Int) : ∀ k, (prodN a b k).length = k
  | 0 => rfl
  | k + 1 => by rw [prodN, List.length_append, prodN_len a b k]; rfl
def prodL (a b : List Int) : List Int := prodN a b b.length

/-- How many places between k and j hold less than place k. -/
def lessN (zs : List Int) (k : Nat) : Nat → Int
  | 0 => 0
  | i + 1 => lessN zs k i + if el zs (k + 1 + i) < el zs k then 1 else 0
theorem lessN_bd (zs : List Int) (k : Nat) : ∀ i, 0 ≤ lessN zs k i ∧ lessN zs k i ≤ i
  | 0 => by simp [lessN]
  | i + 1 => by have := lessN_bd zs k i; simp only [lessN]; split <;> omega
def rankN (zs : List Int) : Nat → Int
  | 0 => 0
  | k + 1 => rankN zs k * ((zs.length : Int) - k) + lessN zs k (zs.length - (k + 1))
def rankL (zs : List Int) : Int := rankN zs zs.length
theorem rankN_bd {zs : List Int} (hn : zs.length ≤ 6) : ∀ k, k ≤ zs.length → 0 ≤ rankN zs k ∧ rankN zs k ≤ 8 ^ k - 1
  | 0, _ => by simp [rankN]
  | k + 1, hk => by
    obtain ⟨h1, h2⟩ := rankN_bd hn k (by omega)
    have h3 := lessN_bd zs k (zs.length - (k + 1))
    have h4 : 0 ≤ rankN zs k * ((zs.length : Int) - k) := Int.mul_nonneg h1 (by omega)
    have h5 : rankN zs k * ((zs.length : Int) - k) ≤ rankN zs k * 6 := Int.mul_le_mul_of_nonneg_left (by omega) h1
    have h6 : (0 : Int) < 8 ^ k := Int.pow_pos (by decide)
    rw [rankN, Int.pow_succ]
    omega
theorem rankN_bd6 {zs : List Int} (hn : zs.length ≤ 6) {k : Nat} (hk : k ≤ zs.length) : 0 ≤ rankN zs k ∧ rankN zs k ≤ 300000 := by
  obtain ⟨h1, h2⟩ := rankN_bd hn k hk
  have : (8 : Int) ^ k ≤ 8 ^ 6 := by
    have : (8 : Nat) ^ k ≤ 8 ^ 6 := Nat.pow_le_pow_right (by decide) (by omega)
    exact_mod_cast this
  omega

end Go.Proofs.Ytelpnpfmedlklaa
