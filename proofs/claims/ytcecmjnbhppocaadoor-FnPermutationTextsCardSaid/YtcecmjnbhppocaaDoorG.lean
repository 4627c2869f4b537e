/- Plain facts on valuations: what is left behind dividing by the prime as often as it goes. No program in sight but for the imports. -/
import Derived.Test.YtcecmjnbhppocaaDoorD
namespace Go.Proofs.YtcecmjnbhppocaaDoor
open Go.RowKit
set_option linter.unusedVariables false
set_option linter.unusedSimpArgs false

theorem vp_ex {p : Int} (hp : 2 ≤ p) : ∀ (f : Nat) (n : Int), n ≠ 0 → n.natAbs ≤ f → ∃ (N : Int) (k : Nat), N % p ≠ 0 ∧ n = N * p ^ k := by
  intro f
  induction f with
  | zero => intro n hn h; omega
  | succ f ih =>
    intro n hn h
    by_cases hd : n % p = 0
    · have s := vInv_step (p := p) (n := n) hp (vInv_start hn) hd
      obtain ⟨N, k, h1, h2⟩ := ih (n / p) s.1.2.1 (by omega)
      refine ⟨N, k + 1, h1, ?_⟩
      have h3 := s.1.1
      rw [h3, h2, Int.pow_succ, Int.pow_succ, Int.pow_zero, Int.one_mul, Int.mul_assoc]
    · exact ⟨n, 0, hd, by simp⟩
/-- n is its unit part times the power of p that divides it. -/
theorem vp_spec {p n : Int} (hp : 2 ≤ p) (hn : n ≠ 0) : n = n / p ^ vp p n * p ^ vp p n ∧ (n / p ^ vp p n) % p ≠ 0 ∧ n.tdiv (p ^ vp p n) = n / p ^ vp p n := by
  obtain ⟨N, k, h1, h2⟩ := vp_ex hp n.natAbs n hn (Nat.le_refl _)
  have h3 := vp_eq hp h1 h2
  have h4 := pow_pos' (show 1 ≤ p by omega) k
  have h5 : n / p ^ k = N := by rw [h2]; exact Int.mul_ediv_cancel _ (by omega)
  rw [h3, h5]
  exact ⟨h2, h1, by rw [h2]; exact Int.mul_tdiv_cancel _ (by omega)⟩
theorem vp_pow_le {p n : Int} (hp : 2 ≤ p) (hn : n ≠ 0) : 1 ≤ p ^ vp p n ∧ p ^ vp p n ≤ n.natAbs := by
  have h := (vp_spec hp hn).1
  have h0 := pow_pos' (show 1 ≤ p by omega) (vp p n)
  generalize p ^ vp p n = P at *
  generalize n / P = q at *
  have hq : q ≠ 0 := fun e => hn (by rw [h, e, Int.zero_mul])
  have h1 : n.natAbs = q.natAbs * P.natAbs := by conv => lhs; rw [h]
                                                 exact Int.natAbs_mul _ _
  have h2 := Nat.mul_le_mul_right P.natAbs (show 1 ≤ q.natAbs by omega)
  omega
theorem vp_le {p n : Int} (hp : 2 ≤ p) (hn : n ≠ 0) : (vp p n : Int) + 1 ≤ n.natAbs := by
  have h1 := (vp_pow_le hp hn).2
  have h2 := pow_ge_two hp (vp p n)
  have h3 := two_pow_gt (vp p n)
  omega
theorem quo_le {n P : Int} (hP : 1 ≤ P) : -(n.natAbs : Int) ≤ n / P ∧ n / P ≤ n.natAbs := by
  by_cases h : 0 ≤ n
  · have := div_bd h hP; omega
  · have h1 := Int.ediv_nonneg_iff_of_pos (show 0 < P by omega) (a := n)
    have h2 : n ≤ n / P := by
      have h4 := Int.mul_ediv_add_emod n P
      have h5 := emod_bd n P hP
      apply Decidable.byContradiction
      intro hlt
      have h6 : n / P ≤ n - 1 := by omega
      have h7 := Int.mul_le_mul_of_nonneg_left h6 (show 0 ≤ P by omega)
      have h8 : P * (n - 1) ≤ n - 1 := by
        have := Int.mul_le_mul_of_nonpos_right (show (1:Int) ≤ P from hP) (show n - 1 ≤ 0 by omega)
        omega
      have h9 : P * (n / P) + n % P = n := h4
      have h10 : n % P < P := h5.2
      have h11 : P * (n - 1) = P * n - P := by rw [Int.mul_sub, Int.mul_one]
      have h12 : P * n ≤ n := by
        have := Int.mul_le_mul_of_nonpos_right (show (1:Int) ≤ P from hP) (show n ≤ 0 by omega)
        omega
      omega
    omega
/-- Dividing by p once more, exactly. -/
theorem quo_step {p N : Int} (hp : 2 ≤ p) (j : Nat) : (N * p ^ (j + 1)).tdiv p = N * p ^ j := by
  rw [Int.pow_succ, ← Int.mul_assoc]; exact Int.mul_tdiv_cancel _ (by omega)

theorem quo_bd {p n : Int} (hp : 2 ≤ p) (hn : n ≠ 0) {a : Nat} (ha : a ≤ vp p n) : (n / p ^ vp p n * p ^ a).natAbs ≤ n.natAbs := by
  have h := (vp_spec hp hn).1
  have h1 : n = n / p ^ vp p n * p ^ a * p ^ (vp p n - a) := by
    conv => lhs; rw [h]
    rw [Int.mul_assoc, ← Int.pow_add]; congr 2; omega
  have h2 := pow_pos' (show 1 ≤ p by omega) (vp p n - a)
  generalize n / p ^ vp p n * p ^ a = q at *
  generalize p ^ (vp p n - a) = P at *
  have h3 : n.natAbs = q.natAbs * P.natAbs := by conv => lhs; rw [h1]
                                                 exact Int.natAbs_mul _ _
  have h4 := Nat.mul_le_mul_left q.natAbs (show 1 ≤ P.natAbs by omega)
  omega
/-- A prime that does not divide u has no common divisor with it. -/
theorem prime_coprime {P U : Nat} (hp : primeB (P : Int) = true) (hu : U % P ≠ 0) : Nat.Coprime P U := by
  obtain ⟨h2, hd⟩ := primeB_iff.1 hp
  unfold Nat.Coprime
  obtain ⟨h, hh⟩ := Nat.gcd_dvd_left P U
  obtain ⟨q, hq⟩ := Nat.gcd_dvd_right P U
  generalize hg : Nat.gcd P U = g at *
  apply Decidable.byContradiction
  intro h1
  have g0 : g ≠ 0 := fun e => by rw [e, Nat.zero_mul] at hh; omega
  have h0 : h ≠ 0 := fun e => by rw [e, Nat.mul_zero] at hh; omega
  have hh1 : h ≠ 1 := fun e => by
    rw [e, Nat.mul_one] at hh
    apply hu
    rw [hq, ← hh]; exact Nat.mul_mod_right _ _
  have key : ∀ d c : Nat, 2 ≤ d → d ≤ c → P = d * c → False := by
    intro d c h2d hdc hP
    refine hd (d : Int) (by omega) ?_ ?_
    · rw [hP, Int.natCast_mul]; exact Int.mul_le_mul_of_nonneg_left (by omega) (by omega)
    · rw [hP, Int.natCast_mul]; exact Int.mul_emod_right _ _
  rcases Nat.le_total g h with hgh | hgh
  · exact key g h (by omega) hgh hh
  · exact key h g (by omega) hgh (by rw [hh, Nat.mul_comm])
theorem gcd_pow {p u : Int} (hp : smallB p = true) (hu0 : 0 ≤ u) (hu : u % p ≠ 0) (j : Nat) : Int.gcd (u % p ^ j) (p ^ j) = 1 := by
  have h2 := small_bd hp
  obtain ⟨P, rfl⟩ := Int.eq_ofNat_of_zero_le (show 0 ≤ p by omega)
  obtain ⟨U, rfl⟩ := Int.eq_ofNat_of_zero_le hu0
  unfold smallB at hp
  rw [Bool.and_eq_true] at hp
  have hc := prime_coprime hp.2 (U := U) (by intro h; apply hu; rw [← Int.natCast_emod, h]; rfl)
  rw [← Int.natCast_pow, ← Int.natCast_emod]
  show Nat.gcd (U % P ^ j) (P ^ j) = 1
  rw [← Nat.gcd_rec]
  exact Nat.Coprime.pow_left j hc

end Go.Proofs.YtcecmjnbhppocaaDoor
