/- Plain facts on primes: Fermat's and Euler's. No program in sight but for the imports. -/
import Derived.Test.YtcecmjnbhppocaaDoorN
namespace Go.Proofs.YtcecmjnbhppocaaDoor
open Go.RowKit
set_option linter.unusedVariables false
set_option linter.unusedSimpArgs false

theorem dvd_of_mod {a b m : Nat} (h : a % m = b % m) : m ∣ b - a := Nat.dvd_of_mod_eq_zero (Nat.sub_mod_eq_zero_of_mod_eq h.symm)
theorem mod_of_dvd {a b m : Nat} (hab : a ≤ b) (h : m ∣ b - a) : a % m = b % m := by
  obtain ⟨k, hk⟩ := h
  have h2 : b = a + m * k := by omega
  rw [h2, Nat.add_mul_mod_self_left]
def prd (l : List Nat) : Nat := l.foldr (· * ·) 1
theorem prd_perm {l l' : List Nat} (h : l.Perm l') : prd l = prd l' := by
  induction h with
  | nil => rfl
  | cons x _ ih => show x * prd _ = x * prd _; rw [ih]
  | swap x y l => show y * (x * prd l) = x * (y * prd l); rw [← Nat.mul_assoc, ← Nat.mul_assoc, Nat.mul_comm y x]
  | trans _ _ h1 h2 => exact h1.trans h2
theorem prd_map_mod (A P : Nat) : ∀ l : List Nat, prd (l.map fun i => A * i % P) % P = A ^ l.length * prd l % P
  | [] => by simp [prd]
  | x :: l => by
    show A * x % P * prd (l.map fun i => A * i % P) % P = A ^ (l.length + 1) * (x * prd l) % P
    rw [Nat.mod_mul_mod, Nat.mul_mod, prd_map_mod A P l, ← Nat.mul_mod]
    congr 1
    rw [Nat.pow_succ]; ac_rfl
theorem prd_coprime {P : Nat} : ∀ l : List Nat, (∀ x ∈ l, Nat.Coprime P x) → Nat.Coprime P (prd l)
  | [], _ => by show Nat.gcd P 1 = 1; simp
  | x :: l, h => by
    show Nat.Coprime P (x * prd l)
    exact Nat.Coprime.mul_right (h x (by simp)) (prd_coprime l fun y hy => h y (by simp [hy]))
theorem mul_inj {P A i j : Nat} (hc : Nat.Coprime P A) (hi : i < P) (hj : j < P) (h : A * i % P = A * j % P) : i = j := by
  have key : ∀ i j : Nat, i < P → j < P → j ≤ i → A * i % P = A * j % P → i = j := by
    intro i j hi hj hle h
    have h1 : P ∣ A * i - A * j := dvd_of_mod h.symm
    rw [← Nat.mul_sub] at h1
    have h2 := hc.dvd_of_dvd_mul_left h1
    have h3 := Nat.eq_zero_of_dvd_of_lt h2 (by omega)
    omega
  rcases Nat.le_total i j with hle | hle
  · exact (key j i hj hi hle h.symm).symm
  · exact key i j hi hj hle h
theorem prime_nat {P : Nat} (hp : primeB (P : Int) = true) : 2 ≤ P := by have := (primeB_iff.1 hp).1; omega
theorem fermat {P A : Nat} (hp : primeB (P : Int) = true) (ha : A % P ≠ 0) : A ^ (P - 1) % P = 1 := by
  have h2 := prime_nat hp
  have hc := prime_coprime hp ha
  have hR : (List.range' 1 (P - 1)).Nodup := List.nodup_range'
  have hM : ((List.range' 1 (P - 1)).map fun i => A * i % P).Nodup := by
    refine List.Pairwise.map _ (fun a b h => ?_) (List.Pairwise.and_mem.1 hR)
    obtain ⟨h1, h3, h4⟩ := h
    rw [List.mem_range'_1] at h1 h3
    exact fun e => h4 (mul_inj hc (by omega) (by omega) e)
  have hsub : ∀ x ∈ (List.range' 1 (P - 1)).map fun i => A * i % P, x ∈ List.range' 1 (P - 1) := by
    intro x hx
    obtain ⟨i, hi, rfl⟩ := List.mem_map.1 hx
    rw [List.mem_range'_1] at hi ⊢
    have h3 := Nat.mod_lt (A * i) (show P > 0 by omega)
    have h4 : A * i % P ≠ 0 := by
      intro h0
      have h5 := hc.dvd_of_dvd_mul_left (Nat.dvd_of_mod_eq_zero h0)
      have := Nat.le_of_dvd (by omega) h5
      omega
    omega
  have hperm : (List.range' 1 (P - 1)).Perm ((List.range' 1 (P - 1)).map fun i => A * i % P) := by
    refine (List.perm_ext_iff_of_nodup hR hM).2 fun j => ⟨fun hj => ?_, hsub j⟩
    apply Decidable.byContradiction
    intro hj2
    have := List.Nodup.length_le_of_subset (List.nodup_cons.2 ⟨hj2, hM⟩) (l₂ := List.range' 1 (P - 1)) (by
      intro x hx
      rcases List.mem_cons.1 hx with rfl | hx
      · exact hj
      · exact hsub x hx)
    simp at this
    omega
  have h3 := prd_map_mod A P (List.range' 1 (P - 1))
  rw [← prd_perm hperm, List.length_range'] at h3
  have h4 : Nat.Coprime P (prd (List.range' 1 (P - 1))) := prd_coprime _ fun x hx => by
    rw [List.mem_range'_1] at hx
    exact prime_coprime hp (by rw [Nat.mod_eq_of_lt (by omega)]; omega)
  have h5 : 1 ≤ A ^ (P - 1) := Nat.one_le_pow _ _ (by rcases Nat.eq_zero_or_pos A with h | h; (rw [h] at ha; simp at ha); exact h)
  have h6 : P ∣ A ^ (P - 1) * prd (List.range' 1 (P - 1)) - 1 * prd (List.range' 1 (P - 1)) := dvd_of_mod (by rw [Nat.one_mul]; exact h3)
  rw [← Nat.sub_mul] at h6
  have h7 := h4.dvd_of_dvd_mul_right h6
  have h9 : 1 % P = A ^ (P - 1) % P := mod_of_dvd h5 h7
  rw [← h9, Nat.mod_eq_of_lt (by omega)]
/-- Euler's criterion, the part that is needed: a power to (P - 1) / 2 is 0, 1 or P - 1. -/
theorem euler {P A : Nat} (hp : primeB (P : Int) = true) (ho : P % 2 = 1) : A ^ ((P - 1) / 2) % P = 0 ∨ A ^ ((P - 1) / 2) % P = 1 ∨ A ^ ((P - 1) / 2) % P = P - 1 := by
  have h2 := prime_nat hp
  by_cases ha : A % P = 0
  · left
    have hd : (P - 1) / 2 = (P - 1) / 2 - 1 + 1 := by omega
    rw [hd, Nat.pow_succ, Nat.mul_mod, ha, Nat.mul_zero, Nat.zero_mod]
  · right
    have hf := fermat hp ha
    have h3 : P - 1 = (P - 1) / 2 + (P - 1) / 2 := by omega
    rw [h3, Nat.pow_add, Nat.mul_mod] at hf
    have h4 := Nat.mod_lt (A ^ ((P - 1) / 2)) (show P > 0 by omega)
    generalize A ^ ((P - 1) / 2) % P = x at *
    have hx : 1 ≤ x := by rcases Nat.eq_zero_or_pos x with h | h; (rw [h] at hf; simp at hf); exact h
    have h5 : P ∣ x * x - 1 := dvd_of_mod (by rw [hf, Nat.mod_eq_of_lt (by omega)])
    have h6 : x * x - 1 = (x + 1) * (x - 1) := by
      obtain ⟨y, rfl⟩ : ∃ y, x = y + 1 := ⟨x - 1, by omega⟩
      rw [Nat.add_sub_cancel]
      simp only [Nat.add_mul, Nat.mul_add, Nat.one_mul, Nat.mul_one]; omega
    rw [h6] at h5
    by_cases h7 : (x - 1) % P = 0
    · left
      rw [Nat.mod_eq_of_lt (by omega)] at h7; omega
    · right
      have h8 := (prime_coprime hp h7).dvd_of_dvd_mul_right h5
      have := Nat.le_of_dvd (by omega) h8
      omega

end Go.Proofs.YtcecmjnbhppocaaDoor
