/- The prime powers of a number are powers of primes that divide it; Jacobi symbols as plain functions. -/
import Derived.Test.YtlndfjplhfgicaaJ
import Derived.Test.YtlndfjplhfgicaaO
namespace Go.Proofs.Ytlndfjplhfgicaa
open Go.RowKit
set_option linter.unusedVariables false
set_option linter.unusedSimpArgs false

theorem mod_dvd {n d : Int} : n % d = 0 ↔ d ∣ n := Int.dvd_iff_emod_eq_zero.symm
theorem factF_good : ∀ (f : Nat) (p n : Int), 2 ≤ p → 1 ≤ n → (∀ d, 2 ≤ d → d < p → n % d ≠ 0) → ∀ x ∈ factF f p n, primeB x.1 = true ∧ n % x.1 = 0 ∧ x.1 ≤ n ∧ 1 ≤ x.2 ∧ x.2 ≤ n
  | 0, p, n, _, _, _, x, h => by simp [factF] at h
  | f + 1, p, n, hp, hn, hd, x, h => by
    rw [factF] at h
    by_cases h1 : n ≤ 1
    · rw [if_pos h1] at h; cases h
    · rw [if_neg h1] at h
      by_cases h2 : n < p * p
      · rw [if_pos h2] at h
        simp at h
        subst h
        refine ⟨primeB_iff.2 ⟨by omega, fun d d2 dd => hd d d2 ?_⟩, Int.emod_self, Int.le_refl _, Int.le_refl _, by simp; omega⟩
        apply Decidable.byContradiction
        intro hdp
        have := Int.mul_le_mul (show p ≤ d by omega) (show p ≤ d by omega) (by omega) (by omega)
        omega
      · rw [if_neg h2] at h
        have hle := sq_le hp (show p * p ≤ n by omega)
        by_cases h3 : n % p = 0
        · rw [if_pos h3] at h
          have hv := vp_spec hp (show n ≠ 0 by omega)
          obtain ⟨q1, q2⟩ := quo_pos hp hn
          rcases List.mem_cons.1 h with rfl | h
          · refine ⟨primeB_iff.2 ⟨hp, fun d d2 dd hm => ?_⟩, h3, by simp; omega, ?_, ?_⟩
            · have hlt : d < p := by
                have := Int.mul_le_mul_of_nonneg_right d2 (show 0 ≤ d by omega)
                omega
              exact hd d d2 hlt (mod_dvd.2 (Int.dvd_trans (mod_dvd.1 hm) (mod_dvd.1 h3)))
            · have := vp_pos hp (show n ≠ 0 by omega) h3
              simp; omega
            · have := vp_le hp (show n ≠ 0 by omega)
              simp; omega
          · have hdv : n / p ^ vp p n ∣ n := ⟨p ^ vp p n, hv.1⟩
            obtain ⟨a1, a2, a3, a4, a5⟩ := factF_good f (p + 1) (n / p ^ vp p n) (by omega) q1 (fun d d2 dp => by
              intro hm
              by_cases e : d = p
              · subst e; exact hv.2.1 hm
              · exact hd d d2 (by omega) (mod_dvd.2 (Int.dvd_trans (mod_dvd.1 hm) hdv))) x h
            exact ⟨a1, mod_dvd.2 (Int.dvd_trans (mod_dvd.1 a2) hdv), by omega, a4, by omega⟩
        · rw [if_neg h3] at h
          exact factF_good f (p + 1) n (by omega) hn (fun d d2 dp => by
            by_cases e : d = p
            · subst e; exact h3
            · exact hd d d2 (by omega)) x h
theorem factL_good {n : Int} (hn : 1 ≤ n) : ∀ x ∈ factL n, primeB x.1 = true ∧ n % x.1 = 0 ∧ x.1 ≤ n ∧ 1 ≤ x.2 ∧ x.2 ≤ n := factF_good _ 2 n (by omega) hn (fun d d2 dp => by omega)

/-- The number of a pair, or (1, 0). -/
def pw (L : List (Int × Int)) (i : Nat) : Int × Int := L.getD i (1, 0)
theorem pw_mem {L : List (Int × Int)} {i : Nat} (h : i < L.length) : pw L i ∈ L := by
  rw [pw, List.getD_eq_getElem?_getD, List.getElem?_eq_getElem h]
  exact List.getElem_mem h
theorem powCells_at : ∀ (L : List (Int × Int)) (i : Nat), i < L.length → (powCells L)[i * 2]? = some (.int .i64 (pw L i).1) ∧ (powCells L)[i * 2 + 1]? = some (.int .i64 (pw L i).2)
  | [], i, h => by simp at h
  | x :: L, 0, h => by simp [powCells, pw]
  | x :: L, i + 1, h => by
    have ih := powCells_at L i (by simpa using h)
    have e : powCells (x :: L) = .int .i64 x.1 :: .int .i64 x.2 :: powCells L := by simp [powCells]
    rw [e, show (i + 1) * 2 = i * 2 + 1 + 1 by omega, List.getElem?_cons_succ, List.getElem?_cons_succ, show i * 2 + 1 + 1 + 1 = (i * 2 + 1) + 1 + 1 by omega, List.getElem?_cons_succ, List.getElem?_cons_succ]
    have e2 : pw (x :: L) (i + 1) = pw L i := by simp [pw]
    rw [e2]
    exact ih
theorem powCells_len (L : List (Int × Int)) : (powCells L).length = L.length * 2 := by
  induction L with
  | nil => rfl
  | cons x L ih => simp [powCells] at ih ⊢; omega
/-- Its shape, and its cells. -/
theorem PowOwn.parts {w : World} {base : Nat} {v : Value} {L : List (Int × Int)} (h : PowOwn w base v L) : ∃ a cap, v = .slice a L.length cap ∧ L.length ≤ cap ∧ cap ≤ maxLen ∧
    (0 < L.length → ∃ g, a = some ⟨g, 0, none⟩ ∧ base ≤ g ∧ g < w.heap.size ∧ ∀ i, i < L.length → w.cell? ⟨g, i * 2, none⟩ = some (.int .i64 (pw L i).1) ∧ w.cell? ⟨g, i * 2 + 1, none⟩ = some (.int .i64 (pw L i).2)) := by
  have h' := h
  rcases h.2 with ⟨rfl, h2⟩ | ⟨g, cap, cur, rfl, hg, hh, hc, hm, hs, ht⟩
  · rw [h2]; exact ⟨none, 0, rfl, by omega, by simp, fun h => by omega⟩
  · refine ⟨_, cap, rfl, hc, hm, fun _ => ⟨g, rfl, hg, (World.ownsRow.lt h' g rfl).2, fun i hi => ?_⟩⟩
    obtain ⟨c1, c2⟩ := powCells_at L i hi
    exact ⟨by rw [World.ownsRow.cellAt h' (i * 2) (by omega), c1], by rw [World.ownsRow.cellAt h' (i * 2 + 1) (by omega), c2]⟩

/-! ### the Jacobi symbol -/
def leg (a p : Int) : Int := if a ^ ((p - 1) / 2).toNat % p = 0 then 0 else if a ^ ((p - 1) / 2).toNat % p = 1 then 1 else -1
theorem leg_tri (a p : Int) : leg a p = 0 ∨ leg a p = 1 ∨ leg a p = -1 := by unfold leg; split; exact .inl rfl; split; exact .inr (.inl rfl); exact .inr (.inr rfl)
theorem leg_euler {a p : Int} (hp : primeB p = true) (ho : p % 2 = 1) : a ^ ((p - 1) / 2).toNat % p = 0 ∨ a ^ ((p - 1) / 2).toNat % p = 1 ∨ a ^ ((p - 1) / 2).toNat % p = p - 1 := by
  have h2 := (primeB_iff.1 hp).1
  obtain ⟨P, rfl⟩ : ∃ P : Nat, p = P := ⟨p.toNat, by omega⟩
  obtain ⟨A, hA⟩ : ∃ A : Nat, (A : Int) = a % P := ⟨(a % P).toNat, by have := Int.emod_nonneg a (show (P : Int) ≠ 0 by omega); omega⟩
  have e : (((P : Int) - 1) / 2).toNat = (P - 1) / 2 := by omega
  have key : a ^ ((P - 1) / 2) % (P : Int) = ((A ^ ((P - 1) / 2) % P : Nat) : Int) := by
    rw [← pow_emod, ← hA]
    simp
  rw [e, key]
  rcases euler (A := A) hp (by omega) with h | h | h <;> rw [h]
  · left; rfl
  · right; left; rfl
  · right; right; omega
/-- What the reference's turn gives. -/
theorem leg_spec {a p : Int} (hp : primeB p = true) (ho : p % 2 = 1) : (a ^ ((p - 1) / 2).toNat % p = p - 1 ∧ leg a p = -1) ∨ (a ^ ((p - 1) / 2).toNat % p ≠ p - 1 ∧ leg a p = a ^ ((p - 1) / 2).toNat % p) := by
  have h2 := (primeB_iff.1 hp).1
  rcases leg_euler (a := a) hp ho with h | h | h
  · right; unfold leg; rw [if_pos h, h]; exact ⟨by omega, rfl⟩
  · right; unfold leg; rw [if_neg (by omega), if_pos h, h]; exact ⟨by omega, rfl⟩
  · left; unfold leg; rw [if_neg (by omega), if_neg (by omega)]; exact ⟨h, rfl⟩
/-- The product over the first i prime powers, and over j times the next. -/
def jacI (a : Int) (L : List (Int × Int)) : Nat → Int
  | 0 => 1
  | i + 1 => jacI a L i * leg a (pw L i).1 ^ (pw L i).2.toNat
theorem tri_mul {x y : Int} (hx : x = 0 ∨ x = 1 ∨ x = -1) (hy : y = 0 ∨ y = 1 ∨ y = -1) : x * y = 0 ∨ x * y = 1 ∨ x * y = -1 := by
  rcases hx with rfl | rfl | rfl <;> rcases hy with rfl | rfl | rfl <;> simp
theorem tri_pow {x : Int} (hx : x = 0 ∨ x = 1 ∨ x = -1) : ∀ k : Nat, x ^ k = 0 ∨ x ^ k = 1 ∨ x ^ k = -1
  | 0 => by simp
  | k + 1 => by rw [Int.pow_succ]; exact tri_mul (tri_pow hx k) hx
theorem jacI_tri (a : Int) (L : List (Int × Int)) : ∀ i, jacI a L i = 0 ∨ jacI a L i = 1 ∨ jacI a L i = -1
  | 0 => .inr (.inl rfl)
  | i + 1 => tri_mul (jacI_tri a L i) (tri_pow (leg_tri _ _) _)
def jacN (a n : Int) : Int := jacI a (factL n) (factL n).length
def jacOk (a n : Int) : Bool := inB a (-1000000000000) 1000000000000 && inB n 1 1000000 && n % 2 != 0
def jacV (a n : Int) : Int := if jacOk a n then jacN a n else 0
def jacC (a n : Int) : Int := if jacOk a n then 0 else 2
theorem odd_part {n : Int} (hn : 1 ≤ n) (ho : n % 2 ≠ 0) {i : Nat} (hi : i < (factL n).length) : primeB (pw (factL n) i).1 = true ∧ (pw (factL n) i).1 % 2 = 1 ∧ 3 ≤ (pw (factL n) i).1 ∧ (pw (factL n) i).1 ≤ n ∧ 1 ≤ (pw (factL n) i).2 ∧ (pw (factL n) i).2 ≤ n := by
  obtain ⟨h1, h2, h3, h4, h5⟩ := factL_good hn _ (pw_mem hi)
  have h6 := (primeB_iff.1 h1).1
  have h7 : (pw (factL n) i).1 % 2 = 1 := by
    apply Decidable.byContradiction
    intro hh
    have h8 : (2 : Int) ∣ (pw (factL n) i).1 := mod_dvd.1 (by omega)
    have h9 := Int.dvd_trans h8 (mod_dvd.1 h2)
    have := mod_dvd.2 h9
    omega
  exact ⟨h1, h7, by omega, h3, h4, h5⟩

end Go.Proofs.Ytlndfjplhfgicaa
