/- Plain facts on integers: ranges, primes, powers, moduli. No program in sight. -/
import Derived.WalkKit
namespace Go.Proofs.YtcecmjnbhppocaaDoor
open Go.RowKit
set_option linter.unusedVariables false
set_option linter.unusedSimpArgs false

def inB (n lo hi : Int) : Bool := decide (lo ≤ n) && decide (n ≤ hi)

theorem inB_iff {n lo hi : Int} : inB n lo hi = true ↔ lo ≤ n ∧ n ≤ hi := by simp [inB]

/-- No divisor d with 2 ≤ d and d * d ≤ n divides n, and n is at least 2. -/
def primeB (n : Int) : Bool := decide (2 ≤ n) && (List.range (n.toNat + 1)).all fun d => decide (d < 2) || decide (n < (d : Int) * d) || decide (n % (d : Int) ≠ 0)

theorem primeB_iff {n : Int} : primeB n = true ↔ 2 ≤ n ∧ ∀ d : Int, 2 ≤ d → d * d ≤ n → n % d ≠ 0 := by
  unfold primeB
  simp only [Bool.and_eq_true, decide_eq_true_eq, List.all_eq_true, List.mem_range, Bool.or_eq_true]
  constructor
  · rintro ⟨h2, h⟩
    refine ⟨h2, fun d hd hdn hm => ?_⟩
    have hdn' : d ≤ n := by
      have := Int.mul_le_mul_of_nonneg_right (show (1:Int) ≤ d by omega) (show 0 ≤ d by omega)
      omega
    rcases h d.toNat (by omega) with (h | h) | h
    · omega
    · rw [Int.toNat_of_nonneg (by omega)] at h; omega
    · rw [Int.toNat_of_nonneg (by omega)] at h; exact h hm
  · rintro ⟨h2, h⟩
    refine ⟨h2, fun d _ => ?_⟩
    by_cases h1 : d < 2
    · exact .inl (.inl h1)
    · by_cases h3 : n < (d : Int) * d
      · exact .inl (.inr h3)
      · exact .inr (h d (by omega) (by omega))

def PrimeInv (n d : Int) : Prop := 2 ≤ d ∧ (d - 1) * (d - 1) ≤ n ∧ ∀ c : Int, 2 ≤ c → c < d → n % c ≠ 0

theorem primeInv_start {n : Int} (h : 2 ≤ n) : PrimeInv n 2 := ⟨by omega, by omega, fun c h1 h2 => by omega⟩
theorem primeInv_step {n d : Int} (h : PrimeInv n d) (hd : d * d ≤ n) (hm : n % d ≠ 0) : PrimeInv n (d + 1) :=
  ⟨by have := h.1; omega, by rw [show d + 1 - 1 = d by omega]; exact hd, fun c h1 h2 => by
    by_cases e : c = d
    · rw [e]; exact hm
    · exact h.2.2 c h1 (by omega)⟩
theorem primeInv_no {n d : Int} (h : PrimeInv n d) (hd : d * d ≤ n) (hm : n % d = 0) : primeB n = false := by
  rw [Bool.eq_false_iff]; intro hp
  exact (primeB_iff.1 hp).2 d h.1 hd hm
theorem primeInv_yes {n d : Int} (h2 : 2 ≤ n) (h : PrimeInv n d) (hd : n < d * d) : primeB n = true := by
  refine primeB_iff.2 ⟨h2, fun c h1 hc => h.2.2 c h1 ?_⟩
  apply Decidable.byContradiction
  intro hcd
  have h3 := Int.mul_le_mul (show d ≤ c by omega) (show d ≤ c by omega) (by have := h.1; omega) (by omega)
  omega
theorem primeInv_bound {n d : Int} (hn : n ≤ 1000000) (h : PrimeInv n d) : d ≤ 1001 := by
  apply Decidable.byContradiction
  intro hcd
  have h3 := Int.mul_le_mul (show 1001 ≤ d - 1 by omega) (show 1001 ≤ d - 1 by omega) (by omega) (by omega)
  have := h.2.1
  omega
theorem sq_bound {d : Int} (h0 : 2 ≤ d) (h : d ≤ 1001) : 0 ≤ d * d ∧ d * d ≤ 1002001 := by
  have h3 := Int.mul_le_mul h h (by omega) (by omega)
  have := Int.mul_nonneg (show 0 ≤ d by omega) (show 0 ≤ d by omega)
  omega


/-! ### powers -/
theorem pow_pos' {p : Int} (h : 1 ≤ p) (k : Nat) : 1 ≤ p ^ k := by
  induction k with
  | zero => simp
  | succ k ih =>
    rw [Int.pow_succ]
    have := Int.mul_le_mul ih h (by omega) (by omega)
    omega
theorem pow_le_succ {p : Int} (h : 1 ≤ p) (k : Nat) : p ^ k ≤ p ^ (k + 1) := by
  rw [Int.pow_succ]
  have := Int.mul_le_mul_of_nonneg_left h (show 0 ≤ p ^ k by have := pow_pos' h k; omega)
  omega
theorem pow_mono {p : Int} (h : 1 ≤ p) {a b : Nat} (hab : a ≤ b) : p ^ a ≤ p ^ b := by
  induction hab with
  | refl => exact Int.le_refl _
  | step _ ih => exact Int.le_trans ih (pow_le_succ h _)
theorem pow_ge_two {p : Int} (h : 2 ≤ p) (k : Nat) : (2 : Int) ^ k ≤ p ^ k := by
  induction k with
  | zero => simp
  | succ k ih =>
    rw [Int.pow_succ, Int.pow_succ]
    exact Int.mul_le_mul ih h (by omega) (by have := pow_pos' (show 1 ≤ p by omega) k; omega)

/-! ### valid primes and rings -/
def smallB (p : Int) : Bool := inB p 2 97 && primeB p
theorem small_bd {p : Int} (h : smallB p = true) : 2 ≤ p ∧ p ≤ 97 := by
  unfold smallB at h
  rw [Bool.and_eq_true] at h
  exact inB_iff.1 h.1
def modB (p n : Int) : Bool := decide (p ^ n.toNat ≤ 1000000000)
def ringB (p n : Int) : Bool := smallB p && inB n 1 40 && modB p n
theorem ring_iff {p n : Int} : ringB p n = true ↔ smallB p = true ∧ (1 ≤ n ∧ n ≤ 40) ∧ p ^ n.toNat ≤ 1000000000 := by
  unfold ringB modB
  rw [Bool.and_eq_true, Bool.and_eq_true, inB_iff, decide_eq_true_eq, and_assoc]
theorem ring_bd {p n : Int} (h : ringB p n = true) : (2 ≤ p ∧ p ≤ 97) ∧ (1 ≤ n ∧ n ≤ 29) ∧ (p ≤ p ^ n.toNat ∧ p ^ n.toNat ≤ 1000000000) := by
  obtain ⟨h1, h2, h3⟩ := ring_iff.1 h
  have h4 := small_bd h1
  refine ⟨h4, ⟨h2.1, ?_⟩, ?_, h3⟩
  · apply Decidable.byContradiction
    intro hn
    have h5 := pow_mono (show 1 ≤ p by omega) (show 30 ≤ n.toNat by omega)
    have h6 := pow_ge_two h4.1 30
    have h7 : (2 : Int) ^ 30 = 1073741824 := by decide
    omega
  · have h5 := pow_mono (show 1 ≤ p by omega) (show 1 ≤ n.toNat by omega)
    rw [show p ^ 1 = p from by rw [Int.pow_succ, Int.pow_zero]; omega] at h5
    exact h5

theorem wrap64_mul (a b : Int) : wrap64 (wrap64 a * b) = wrap64 (a * b) := by
  have h : ∃ k, wrap64 a = a + k * 18446744073709551616 := by
    unfold wrap64
    refine ⟨(-((a + 9223372036854775808) / 18446744073709551616)), ?_⟩
    omega
  obtain ⟨k, hk⟩ := h
  rw [hk]
  unfold wrap64
  rw [Int.add_mul, show k * 18446744073709551616 * b = 18446744073709551616 * (k * b) by rw [Int.mul_comm k, Int.mul_assoc]]
  omega

theorem wrap64_id {n : Int} (h1 : -9223372036854775808 ≤ n) (h2 : n ≤ 9223372036854775807) : wrap64 n = n := by unfold wrap64; omega

theorem tmod_mod (n m : Int) (hm : 1 ≤ m) : (n.tmod m + m) % m = n % m := by
  rw [Int.add_emod_right]
  by_cases h : 0 ≤ n
  · rw [Int.tmod_eq_emod_of_nonneg h, Int.emod_emod]
  · have h2 := Int.mul_tdiv_add_tmod n m
    have h3 : n.tmod m = n + m * (-(n.tdiv m)) := by rw [Int.mul_neg]; omega
    rw [h3, Int.add_mul_emod_self_left]
theorem tmod_bd (n m : Int) (hm : 1 ≤ m) : -m < n.tmod m ∧ n.tmod m < m := by
  have h1 := Int.tmod_lt_of_pos n (show 0 < m by omega)
  have h2 := Int.lt_tmod_of_pos n (show 0 < m by omega)
  omega
theorem emod_bd (n m : Int) (hm : 1 ≤ m) : 0 ≤ n % m ∧ n % m < m := ⟨Int.emod_nonneg _ (by omega), Int.emod_lt_of_pos _ (by omega)⟩

end Go.Proofs.YtcecmjnbhppocaaDoor
