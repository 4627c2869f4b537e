/- The divisors of a number as lists: by its prime powers, by trial. -/
import Derived.Test.YtlndfjplhfgicaaFa
import Derived.Test.YtlndfjplhfgicaaTa
namespace Go.Proofs.Ytlndfjplhfgicaa
open Go.RowKit
set_option linter.unusedVariables false
set_option linter.unusedSimpArgs false

/-! ### the prime powers: in order, their product -/
theorem factF_low : ∀ (f : Nat) (p n : Int), 2 ≤ p → 1 ≤ n → (∀ d, 2 ≤ d → d < p → n % d ≠ 0) → (∀ x ∈ factF f p n, p ≤ x.1) ∧ (factF f p n).Pairwise (fun x y => x.1 < y.1)
  | 0, p, n, _, _, _ => by simp [factF]
  | f + 1, p, n, hp, hn, hd => by
    rw [factF]
    by_cases h1 : n ≤ 1
    · rw [if_pos h1]; simp
    · rw [if_neg h1]
      have hpn : p ≤ n := by
        apply Decidable.byContradiction
        intro hh
        exact hd n (by omega) (by omega) Int.emod_self
      by_cases h2 : n < p * p
      · rw [if_pos h2]; simp; exact hpn
      · rw [if_neg h2]
        by_cases h3 : n % p = 0
        · rw [if_pos h3]
          have hv := vp_spec hp (show n ≠ 0 by omega)
          obtain ⟨q1, q2⟩ := quo_pos hp hn
          have hdv : n / p ^ vp p n ∣ n := ⟨p ^ vp p n, hv.1⟩
          obtain ⟨a1, a2⟩ := factF_low f (p + 1) (n / p ^ vp p n) (by omega) q1 (fun d d2 dp => by
            intro hm
            by_cases e : d = p
            · subst e; exact hv.2.1 hm
            · exact hd d d2 (by omega) (mod_dvd.2 (Int.dvd_trans (mod_dvd.1 hm) hdv)))
          refine ⟨fun x hx => ?_, List.pairwise_cons.2 ⟨fun x hx => by have := a1 x hx; show p < x.1; omega, a2⟩⟩
          rcases List.mem_cons.1 hx with rfl | hx
          · exact Int.le_refl _
          · have := a1 x hx; omega
        · rw [if_neg h3]
          obtain ⟨a1, a2⟩ := factF_low f (p + 1) n (by omega) hn (fun d d2 dp => by
            by_cases e : d = p
            · subst e; exact h3
            · exact hd d d2 (by omega))
          exact ⟨fun x hx => by have := a1 x hx; omega, a2⟩
def prodF (L : List (Int × Int)) : Int := L.foldr (fun x acc => x.1 ^ x.2.toNat * acc) 1
theorem factF_prod : ∀ (f : Nat) (p n : Int), 2 ≤ p → 1 ≤ n → (∀ d, 2 ≤ d → d < p → n % d ≠ 0) → n + 4 ≤ f + p → prodF (factF f p n) = n
  | 0, p, n, hp, hn, hd, hf => by
    rw [factF]
    apply Decidable.byContradiction
    intro hh
    have : n ≠ 1 := fun e => hh (by rw [e]; rfl)
    exact hd n (by omega) (by omega) Int.emod_self
  | f + 1, p, n, hp, hn, hd, hf => by
    rw [factF]
    by_cases h1 : n ≤ 1
    · rw [if_pos h1]; show (1 : Int) = n; omega
    · rw [if_neg h1]
      by_cases h2 : n < p * p
      · rw [if_pos h2]; simp [prodF, Int.pow_succ]
      · rw [if_neg h2]
        by_cases h3 : n % p = 0
        · rw [if_pos h3]
          have hv := vp_spec hp (show n ≠ 0 by omega)
          obtain ⟨q1, q2⟩ := quo_pos hp hn
          have hdv : n / p ^ vp p n ∣ n := ⟨p ^ vp p n, hv.1⟩
          have ih := factF_prod f (p + 1) (n / p ^ vp p n) (by omega) q1 (fun d d2 dp => by
            intro hm
            by_cases e : d = p
            · subst e; exact hv.2.1 hm
            · exact hd d d2 (by omega) (mod_dvd.2 (Int.dvd_trans (mod_dvd.1 hm) hdv))) (by omega)
          show p ^ ((vp p n : Nat) : Int).toNat * prodF (factF f (p + 1) (n / p ^ vp p n)) = n
          rw [ih, Int.toNat_natCast, Int.mul_comm]
          exact hv.1.symm
        · rw [if_neg h3]
          exact factF_prod f (p + 1) n (by omega) hn (fun d d2 dp => by
            by_cases e : d = p
            · subst e; exact h3
            · exact hd d d2 (by omega)) (by omega)
theorem factL_prod {n : Int} (hn : 1 ≤ n) : prodF (factL n) = n := factF_prod _ 2 n (by omega) hn (fun d d2 dd => by omega) (by omega)
theorem factL_rise {n : Int} (hn : 1 ≤ n) : (factL n).Pairwise (fun x y => x.1 < y.1) := (factF_low _ 2 n (by omega) hn (fun d d2 dd => by omega)).2

/-! ### the divisors out of the prime powers -/
def crossL (p : Int) (k : Nat) (ds : List Int) : List Int := ds.flatMap fun d => (List.range (k + 1)).map fun e : Nat => d * p ^ e
def rawW (L : List (Int × Int)) (ds : List Int) : List Int := L.foldl (fun ds x => crossL x.1 x.2.toNat ds) ds
/-- ds holds the divisors of N, each once. -/
structure Divs (N : Int) (ds : List Int) : Prop where
  nodup : ds.Nodup
  mem : ∀ d, d ∈ ds ↔ 1 ≤ d ∧ d ∣ N
theorem gcd_unit' {p a : Int} {n : Nat} (hp : primeB p = true) (ha : 0 ≤ a) (hu : a % p ≠ 0) : Int.gcd a (p ^ n) = 1 := by
  have h2 := (primeB_iff.1 hp).1
  obtain ⟨P, rfl⟩ := Int.eq_ofNat_of_zero_le (show 0 ≤ p by omega)
  obtain ⟨A, rfl⟩ := Int.eq_ofNat_of_zero_le ha
  have h3 : Nat.Coprime P A := prime_coprime hp (fun e => hu (by omega))
  have h4 : Nat.Coprime A (P ^ n) := h3.symm.pow_right n
  have e : ((P : Int) ^ n) = ((P ^ n : Nat) : Int) := by simp
  rw [e]
  exact h4
theorem prime_mul_mod' {p a b : Int} (hp : primeB p = true) (ha : a % p ≠ 0) (hb : b % p ≠ 0) : a * b % p ≠ 0 := by
  have h2 := (primeB_iff.1 hp).1
  obtain ⟨P, rfl⟩ := Int.eq_ofNat_of_zero_le (show 0 ≤ p by omega)
  intro h
  have h1 : (P : Int) ∣ a * b := Int.dvd_of_emod_eq_zero h
  rw [← Int.natAbs_dvd_natAbs, Int.natAbs_mul] at h1
  have h3 : ¬ P ∣ a.natAbs := fun hd => ha (Int.emod_eq_zero_of_dvd (by rw [← Int.natAbs_dvd_natAbs]; exact hd))
  have h4 : ¬ P ∣ b.natAbs := fun hd => hb (Int.emod_eq_zero_of_dvd (by rw [← Int.natAbs_dvd_natAbs]; exact hd))
  have hc := prime_coprime hp (U := a.natAbs) (fun e => h3 (Nat.dvd_of_mod_eq_zero e))
  exact h4 (hc.dvd_of_dvd_mul_left h1)
theorem prime_pow_ne {p q : Int} (hp : primeB p = true) (hq : primeB q = true) (h : p < q) : ∀ {k : Nat}, p ^ k % q ≠ 0
  | 0 => by
    have := (primeB_iff.1 hq).1
    rw [Int.pow_zero, Int.emod_eq_of_lt (by omega) (by omega)]; omega
  | k + 1 => by
    have h1 := (primeB_iff.1 hp).1
    rw [Int.pow_succ]
    refine prime_mul_mod' hq (prime_pow_ne hp hq h) ?_
    rw [Int.emod_eq_of_lt (by omega) h]; omega
theorem coprime_int {p d : Int} (hp : primeB p = true) (hd : 1 ≤ d) (h : d % p ≠ 0) (k : Nat) {N : Int} (h1 : d ∣ N * p ^ k) : d ∣ N := by
  have h2 := (primeB_iff.1 hp).1
  have hc := gcd_unit' (n := k) hp (by omega) h
  rw [← Int.natAbs_dvd_natAbs, Int.natAbs_mul] at h1
  rw [← Int.natAbs_dvd_natAbs]
  exact Nat.Coprime.dvd_of_dvd_mul_right (show Nat.Coprime d.natAbs (p ^ k).natAbs from hc) h1
theorem divs_step {N p : Int} {k : Nat} {ds : List Int} (h : Divs N ds) (hp : primeB p = true) (hN : 1 ≤ N) (hpN : N % p ≠ 0) : Divs (N * p ^ k) (crossL p k ds) := by
  have h2 := (primeB_iff.1 hp).1
  have key : ∀ d e, 1 ≤ d → d ∣ N → vp p (d * p ^ e) = e ∧ d * p ^ e / p ^ e = d ∧ d % p ≠ 0 := by
    intro d e hd1 hd
    have hdp : d % p ≠ 0 := fun hh => hpN (mod_dvd.2 (Int.dvd_trans (mod_dvd.1 hh) hd))
    have h3 := pow_pos' (show 1 ≤ p by omega) e
    exact ⟨vp_eq h2 hdp rfl, Int.mul_ediv_cancel _ (by omega), hdp⟩
  constructor
  · show List.Pairwise _ _
    rw [crossL, List.pairwise_flatMap]
    constructor
    · intro d hd
      obtain ⟨d1, d2⟩ := (h.mem d).1 hd
      rw [List.pairwise_map]
      refine List.Pairwise.imp_of_mem ?_ (List.pairwise_lt_range)
      intro a b _ _ hab heq
      have e1 := (key d a d1 d2).1
      have e2 := (key d b d1 d2).1
      rw [heq] at e1
      omega
    · refine List.Pairwise.imp_of_mem ?_ h.nodup
      intro d d' hd hd' hne x hx y hy hxy
      obtain ⟨d1, d2⟩ := (h.mem d).1 hd
      obtain ⟨d1', d2'⟩ := (h.mem d').1 hd'
      obtain ⟨a, _, rfl⟩ := List.mem_map.1 hx
      obtain ⟨b, _, rfl⟩ := List.mem_map.1 hy
      obtain ⟨u1, u2, _⟩ := key d a d1 d2
      obtain ⟨v1, v2, _⟩ := key d' b d1' d2'
      rw [hxy, v1] at u1
      subst u1
      rw [hxy, v2] at u2
      exact hne u2.symm
  · intro x
    rw [crossL, List.mem_flatMap]
    constructor
    · rintro ⟨d, hd, hx⟩
      obtain ⟨d1, d2⟩ := (h.mem d).1 hd
      obtain ⟨e, he, rfl⟩ := List.mem_map.1 hx
      have h3 := pow_pos' (show 1 ≤ p by omega) e
      refine ⟨?_, Int.mul_dvd_mul d2 ⟨p ^ (k - e), by rw [← Int.pow_add]; congr 1; simp at he; omega⟩⟩
      have := Int.mul_le_mul d1 h3 (by omega) (by omega)
      omega
    · rintro ⟨x1, x2⟩
      have hv := vp_spec h2 (show x ≠ 0 by omega)
      obtain ⟨q1, q2⟩ := quo_pos h2 x1
      have hdx : x / p ^ vp p x ∣ x := ⟨p ^ vp p x, hv.1⟩
      have hdN : x / p ^ vp p x ∣ N := coprime_int hp q1 hv.2.1 k (Int.dvd_trans hdx x2)
      have hek : vp p x ≤ k := by
        have hpx : p ^ vp p x ∣ N * p ^ k := Int.dvd_trans ⟨x / p ^ vp p x, by rw [Int.mul_comm]; exact hv.1⟩ x2
        apply Decidable.byContradiction
        intro hh
        obtain ⟨t, ht⟩ := hpx
        have h3 := pow_pos' (show 1 ≤ p by omega) k
        have e1 : p ^ vp p x = p ^ k * p ^ (vp p x - k) := by rw [← Int.pow_add]; congr 1; omega
        rw [e1] at ht
        have e2 : N = p ^ (vp p x - k) * t := by
          have : p ^ k * N = p ^ k * (p ^ (vp p x - k) * t) := by rw [← Int.mul_assoc, ← ht, Int.mul_comm]
          exact Int.eq_of_mul_eq_mul_left (by omega) this
        apply hpN
        rw [e2, show vp p x - k = vp p x - k - 1 + 1 by omega, Int.pow_succ]
        exact Int.emod_eq_zero_of_dvd ⟨p ^ (vp p x - k - 1) * t, by rw [Int.mul_comm (p ^ (vp p x - k - 1)) p, Int.mul_assoc]⟩
      refine ⟨x / p ^ vp p x, (h.mem _).2 ⟨q1, hdN⟩, List.mem_map.2 ⟨vp p x, by simp; omega, hv.1.symm⟩⟩
theorem prodF_pos : ∀ (L : List (Int × Int)), (∀ x ∈ L, primeB x.1 = true) → 1 ≤ prodF L
  | [], _ => Int.le_refl _
  | x :: L, h => by
    have ih := prodF_pos L (fun y hy => h y (List.mem_cons_of_mem _ hy))
    have hp := (primeB_iff.1 (h x (List.mem_cons_self ..))).1
    have h3 := pow_pos' (show 1 ≤ x.1 by omega) x.2.toNat
    show 1 ≤ x.1 ^ x.2.toNat * prodF L
    have := Int.mul_le_mul h3 ih (by omega) (by omega)
    omega
theorem divs_all : ∀ (L : List (Int × Int)) (N : Int) (ds : List Int), Divs N ds → 1 ≤ N → (∀ x ∈ L, primeB x.1 = true) → (∀ x ∈ L, N % x.1 ≠ 0) → L.Pairwise (fun x y => x.1 < y.1) → Divs (N * prodF L) (rawW L ds)
  | [], N, ds, h, _, _, _, _ => by simpa [prodF, rawW] using h
  | x :: L, N, ds, h, hN, hp, hx, hr => by
    have hpx := hp x (List.mem_cons_self ..)
    have h2 := (primeB_iff.1 hpx).1
    have hs := divs_step (k := x.2.toNat) h hpx hN (hx x (List.mem_cons_self ..))
    obtain ⟨r1, r2⟩ := List.pairwise_cons.1 hr
    have h3 := pow_pos' (show 1 ≤ x.1 by omega) x.2.toNat
    have hN2 : 1 ≤ N * x.1 ^ x.2.toNat := by have := Int.mul_le_mul hN h3 (by omega) (by omega); omega
    have := divs_all L (N * x.1 ^ x.2.toNat) (crossL x.1 x.2.toNat ds) hs hN2 (fun y hy => hp y (List.mem_cons_of_mem _ hy)) (fun y hy => by
      have hpy := hp y (List.mem_cons_of_mem _ hy)
      have hlt := r1 y hy
      refine prime_mul_mod' hpy (hx y (List.mem_cons_of_mem _ hy)) ?_
      exact prime_pow_ne hpx hpy hlt) r2
    show Divs (N * (x.1 ^ x.2.toNat * prodF L)) _
    rw [← Int.mul_assoc]
    exact this
def rawD (n : Int) : List Int := rawW (factL n) [1]
theorem rawD_divs {n : Int} (hn : 1 ≤ n) : Divs n (rawD n) := by
  have h1 : Divs 1 [1] := ⟨by simp, fun d => by
    simp
    constructor
    · rintro rfl; exact ⟨Int.le_refl _, Int.dvd_refl _⟩
    · rintro ⟨a, b⟩; have := Int.le_of_dvd (by omega) b; omega⟩
  have := divs_all (factL n) 1 [1] h1 (by omega) (fun x hx => (factL_good hn x hx).1) (fun x hx => by
    have := (primeB_iff.1 (factL_good hn x hx).1).1
    rw [Int.emod_eq_of_lt (by omega) (by omega)]; omega) (factL_rise hn)
  rwa [factL_prod hn, Int.one_mul] at this
/-- By trial. -/
def divU (n : Int) : Nat → List Int
  | 0 => []
  | k + 1 => if n % ((k : Int) + 1) = 0 then divU n k ++ [(k : Int) + 1] else divU n k
theorem divU_mem (n : Int) : ∀ k d, d ∈ divU n k ↔ 1 ≤ d ∧ d ≤ k ∧ n % d = 0
  | 0, d => by simp [divU]; intro h1 h2; omega
  | k + 1, d => by
    have ih := divU_mem n k d
    rw [divU]
    split
    · rw [List.mem_append, ih, List.mem_singleton]
      constructor
      · rintro (⟨a, b, c⟩ | rfl)
        · exact ⟨a, by omega, c⟩
        · exact ⟨by omega, by omega, by assumption⟩
      · rintro ⟨a, b, c⟩
        by_cases e : d = (k : Int) + 1
        · exact .inr e
        · exact .inl ⟨a, by omega, c⟩
    · rw [ih]
      constructor
      · rintro ⟨a, b, c⟩; exact ⟨a, by omega, c⟩
      · rintro ⟨a, b, c⟩
        refine ⟨a, ?_, c⟩
        apply Decidable.byContradiction
        intro hh
        have : d = (k : Int) + 1 := by omega
        subst this
        contradiction
theorem divU_rise (n : Int) : ∀ k, (divU n k).Pairwise (· < ·)
  | 0 => List.Pairwise.nil
  | k + 1 => by
    rw [divU]
    split
    · rw [List.pairwise_append]
      refine ⟨divU_rise n k, by simp, fun a ha b hb => ?_⟩
      have := ((divU_mem n k a).1 ha).2.1
      simp at hb
      omega
    · exact divU_rise n k
theorem sorted_raw {n : Int} (hn : 1 ≤ n) : sortL (rawD n) = divU n n.toNat := by
  have hd := rawD_divs hn
  have hp : (rawD n).Perm (divU n n.toNat) := by
    rw [List.perm_ext_iff_of_nodup hd.nodup ((divU_rise n n.toNat).imp (fun h => by omega))]
    intro d
    rw [hd.mem, divU_mem]
    constructor
    · rintro ⟨a, b⟩
      have := Int.le_of_dvd (by omega) b
      exact ⟨a, by omega, mod_dvd.2 b⟩
    · rintro ⟨a, b, c⟩
      exact ⟨a, mod_dvd.1 c⟩
  refine List.Perm.eq_of_pairwise (le := (· ≤ ·)) (fun a b _ _ h1 h2 => by omega) ?_ ((divU_rise n n.toNat).imp (fun h => by omega)) ((List.mergeSort_perm _ _).trans hp)
  have := List.pairwise_mergeSort (le := fun x y : Int => decide (x ≤ y)) (fun a b c h1 h2 => by simp at *; omega) (fun a b => by simp; omega) (rawD n)
  exact this.imp (fun h => by simpa using h)

end Go.Proofs.Ytlndfjplhfgicaa
