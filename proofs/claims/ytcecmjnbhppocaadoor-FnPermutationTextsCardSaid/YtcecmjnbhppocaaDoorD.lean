/- Contracts: powers by a modulus, valuations. -/
import Derived.Test.YtcecmjnbhppocaaDoorB
import Derived.Laws.BitsLemmas
namespace Go.Proofs.YtcecmjnbhppocaaDoor
open Go.RowKit
set_option linter.unusedVariables false
set_option linter.unusedSimpArgs false

theorem mul_mod_bd {a b m : Int} (h1 : 1 ≤ m) (h2 : m ≤ 3037000499) (ha : 0 ≤ a ∧ a < m) (hb : 0 ≤ b ∧ b < m) : 0 ≤ a * b ∧ a * b ≤ 9223372036854775807 := by
  have h3 := Int.mul_le_mul (show a ≤ 3037000498 by omega) (show b ≤ 3037000498 by omega) hb.1 (by omega)
  have := Int.mul_nonneg ha.1 hb.1
  omega
theorem pw_odd (a : Int) {e : Nat} (h : e % 2 = 1) : a ^ e = a * (a * a) ^ (e / 2) := by
  conv => lhs; rw [show e = 2 * (e / 2) + 1 by omega, Int.pow_succ, Int.pow_mul, Int.mul_comm]
  rw [show a ^ 2 = a * a by rw [Int.pow_succ, Int.pow_succ, Int.pow_zero, Int.one_mul]]
theorem pw_even (a : Int) {e : Nat} (h : e % 2 = 0) : a ^ e = (a * a) ^ (e / 2) := by
  conv => lhs; rw [show e = 2 * (e / 2) by omega, Int.pow_mul]
  rw [show a ^ 2 = a * a by rw [Int.pow_succ, Int.pow_succ, Int.pow_zero, Int.one_mul]]
theorem pow_emod (a m : Int) (k : Nat) : (a % m) ^ k % m = a ^ k % m := by
  induction k with
  | zero => simp
  | succ k ih => rw [Int.pow_succ, Int.pow_succ, Int.mul_emod, ih, Int.emod_emod, ← Int.mul_emod]
theorem mul_pow_emod (o a m : Int) (k : Nat) : o * (a * a % m) ^ k % m = o * (a * a) ^ k % m := by
  rw [Int.mul_emod, pow_emod, ← Int.mul_emod]

theorem and_one_i64 (E : Int) (h0 : 0 ≤ E) (h1 : E ≤ 9223372036854775807) : bits BinOp.and IntKind.i64 E 1 = E % 2 := by
  have h127 : (BitVec.ofInt 64 1).toNat = 2 ^ 1 - 1 := by decide
  have key : (BitVec.ofInt 64 E &&& BitVec.ofInt 64 1).toNat = (E % ((2 ^ 64 : Nat) : Int)).toNat % 2 ^ 1 := by
    rw [BitVec.toNat_and, BitVec.toNat_ofInt, h127, Nat.and_two_pow_sub_one_eq_mod]
  show IntKind.i64.wrap ((BitVec.ofInt 64 E &&& BitVec.ofInt 64 1).toNat : Nat) = E % 2
  rw [key, IntKind.wrap_i64]
  omega
/-- What the loop keeps: out * a ^ e, by the modulus. -/
def PowInv (m t A E O : Int) : Prop := (0 ≤ A ∧ A < m) ∧ (0 ≤ O ∧ O < m) ∧ O * A ^ E.toNat % m = t
theorem powInv_odd {m t A E O : Int} (hm : 1 ≤ m) (h : PowInv m t A E O) (hE : 0 ≤ E) (ho : E % 2 = 1) : PowInv m t (A * A % m) (E / 2) (O * A % m) := by
  refine ⟨emod_bd _ _ hm, emod_bd _ _ hm, ?_⟩
  have h3 := h.2.2
  rw [pw_odd A (show E.toNat % 2 = 1 by omega), ← Int.mul_assoc] at h3
  rw [show (E / 2).toNat = E.toNat / 2 by omega, mul_pow_emod, Int.mul_emod, Int.emod_emod, ← Int.mul_emod]
  exact h3
theorem powInv_even {m t A E O : Int} (hm : 1 ≤ m) (h : PowInv m t A E O) (hE : 0 ≤ E) (ho : E % 2 = 0) : PowInv m t (A * A % m) (E / 2) O := by
  refine ⟨emod_bd _ _ hm, h.2.1, ?_⟩
  have h3 := h.2.2
  rw [pw_even A (show E.toNat % 2 = 0 by omega)] at h3
  rw [show (E / 2).toNat = E.toNat / 2 by omega, mul_pow_emod]
  exact h3
theorem powInv_end {m t A E O : Int} (h : PowInv m t A E O) (hE : E ≤ 0) : O = t := by
  have h3 := h.2.2
  rw [show E.toNat = 0 by omega, Int.pow_zero, Int.mul_one, Int.emod_eq_of_lt h.2.1.1 h.2.1.2] at h3
  exact h3
theorem powInv_start {a x m : Int} (hm : 2 ≤ m) : PowInv m (a ^ x.toNat % m) (a % m) x 1 :=
  ⟨emod_bd _ _ (by omega), ⟨by omega, by omega⟩, by rw [Int.one_mul, pow_emod]⟩

/-- How often p divides n. -/
def vpF (p : Int) : Nat → Int → Nat
  | 0, _ => 0
  | f + 1, n => if n % p = 0 then vpF p f (n / p) + 1 else 0
def vp (p n : Int) : Nat := vpF p n.natAbs n
theorem vpF_eq {p : Int} (hp : 2 ≤ p) {N : Int} (hN : N % p ≠ 0) : ∀ (k f : Nat), k ≤ f → vpF p f (N * p ^ k) = k := by
  intro k
  induction k with
  | zero =>
    intro f _
    cases f with
    | zero => rfl
    | succ f => rw [Int.pow_zero, Int.mul_one]; unfold vpF; rw [if_neg hN]
  | succ k ih =>
    intro f hf
    obtain ⟨f, rfl⟩ : ∃ g, f = g + 1 := ⟨f - 1, by omega⟩
    unfold vpF
    rw [Int.pow_succ, ← Int.mul_assoc, if_pos (Int.mul_emod_left _ _), Int.mul_ediv_cancel _ (by omega), ih f (by omega)]
theorem two_pow_gt (k : Nat) : (k : Int) + 1 ≤ 2 ^ k := by
  induction k with
  | zero => simp
  | succ k ih => rw [Int.pow_succ]; omega
theorem vp_eq {p n N : Int} {k : Nat} (hp : 2 ≤ p) (hN : N % p ≠ 0) (h : n = N * p ^ k) : vp p n = k := by
  have h1 : k ≤ n.natAbs := by
    have h2 := two_pow_gt k
    have h3 := pow_ge_two hp k
    have h4 : N.natAbs ≠ 0 := fun e => hN (by rw [show N = 0 by omega]; exact Int.zero_emod _)
    have h5 : n.natAbs = N.natAbs * (p ^ k).natAbs := by rw [h, Int.natAbs_mul]
    have h6 := Nat.mul_le_mul_right (p ^ k).natAbs (show 1 ≤ N.natAbs by omega)
    omega
  unfold vp
  rw [h] at h1 ⊢
  exact vpF_eq hp hN k _ h1
/-- What the loops of the valuations keep. -/
def VInv (p n N : Int) (k : Nat) : Prop := n = N * p ^ k ∧ N ≠ 0 ∧ k + N.natAbs ≤ n.natAbs
theorem vInv_start {p n : Int} (hn : n ≠ 0) : VInv p n n 0 := ⟨by simp, hn, by omega⟩
theorem vInv_step {p n N : Int} {k : Nat} (hp : 2 ≤ p) (h : VInv p n N k) (hd : N % p = 0) : VInv p n (N / p) (k + 1) ∧ (N / p).natAbs < N.natAbs ∧ N.tdiv p = N / p := by
  obtain ⟨h1, h2, h3⟩ := h
  obtain ⟨q, rfl⟩ := Int.dvd_of_emod_eq_zero hd
  have hq : p * q / p = q := Int.mul_ediv_cancel_left _ (by omega)
  have hq0 : q ≠ 0 := fun e => h2 (by rw [e, Int.mul_zero])
  have hab : (p * q).natAbs = p.natAbs * q.natAbs := Int.natAbs_mul _ _
  have hm := Nat.mul_le_mul_right q.natAbs (show 2 ≤ p.natAbs by omega)
  rw [hq]
  refine ⟨⟨by rw [h1, Int.pow_succ, Int.mul_assoc p q, Int.mul_comm p, Int.mul_assoc], hq0, by omega⟩, by omega, Int.mul_tdiv_cancel_left _ (by omega)⟩
theorem vInv_end {p n N : Int} {k : Nat} (hp : 2 ≤ p) (h : VInv p n N k) (hd : N % p ≠ 0) : vp p n = k := vp_eq hp hd h.1
theorem tmod_zero (n p : Int) : n.tmod p = 0 ↔ n % p = 0 := by
  rw [← Int.dvd_iff_tmod_eq_zero, ← Int.dvd_iff_emod_eq_zero]

end Go.Proofs.YtcecmjnbhppocaaDoor
