/- All roots in a ring, in increasing order: plain. -/
import Derived.Test.YtdkppikbneijaaaGg
import Derived.Test.YtdkppikbneijaaaTb
namespace Go.Proofs.Ytdkppikbneijaaa
set_option linter.unusedVariables false
set_option linter.unusedSimpArgs false

/-- The numbers below n that have the property. -/
def rootL (P : Nat → Bool) : Nat → List Int
  | 0 => []
  | n + 1 => if P n then rootL P n ++ [(n : Int)] else rootL P n
theorem rootL_len (P : Nat → Bool) : ∀ n, (rootL P n).length = cntL P n
  | 0 => rfl
  | n + 1 => by rw [rootL, cntL]; split <;> simp [rootL_len P n]
theorem rootL_mem (P : Nat → Bool) : ∀ n (x : Int), x ∈ rootL P n ↔ 0 ≤ x ∧ x < n ∧ P x.toNat = true
  | 0, x => by simp [rootL]; omega
  | n + 1, x => by
    have ih := rootL_mem P n x
    rw [rootL]
    split
    · rename_i hP
      rw [List.mem_append, ih, List.mem_singleton]
      constructor
      · rintro (⟨a, b, c⟩ | rfl)
        · exact ⟨a, by omega, c⟩
        · exact ⟨by omega, by omega, by simpa using hP⟩
      · rintro ⟨a, b, c⟩
        by_cases e : x = n
        · exact .inr e
        · exact .inl ⟨a, by omega, c⟩
    · rename_i hP
      rw [ih]
      constructor
      · rintro ⟨a, b, c⟩; exact ⟨a, by omega, c⟩
      · rintro ⟨a, b, c⟩
        refine ⟨a, ?_, c⟩
        apply Decidable.byContradiction
        intro hh
        have : x = n := by omega
        subst this
        rw [Int.toNat_natCast] at c
        contradiction
theorem rootL_rise (P : Nat → Bool) : ∀ n, (rootL P n).Pairwise (· < ·)
  | 0 => List.Pairwise.nil
  | n + 1 => by
    rw [rootL]
    split
    · rw [List.pairwise_append]
      refine ⟨rootL_rise P n, by simp, fun a ha b hb => ?_⟩
      have := ((rootL_mem P n a).1 ha).2.1
      simp at hb
      omega
    · exact rootL_rise P n
theorem perm_of {L M : List Int} (hM : M.Pairwise (· < ·)) (hn : L.Nodup) (hm : ∀ x, x ∈ L ↔ x ∈ M) : L.Perm M :=
  (List.perm_ext_iff_of_nodup hn (hM.imp (fun h => by omega))).2 hm
theorem sort_is {L M : List Int} (hM : M.Pairwise (· < ·)) (hp : L.Perm M) : sortL L = M := by
  refine List.Perm.eq_of_pairwise (le := (· ≤ ·)) (fun a b _ _ h1 h2 => by omega) ?_ (hM.imp (fun h => by omega)) ((List.mergeSort_perm _ _).trans hp)
  have := List.pairwise_mergeSort (le := fun x y : Int => decide (x ≤ y)) (fun a b c h1 h2 => by simp at *; omega) (fun a b => by simp; omega) L
  exact this.imp (fun h => by simpa using h)
def rootsR (p : Int) (K : Nat) (f : List Int) : List Int := rootL (fun x => decide (valM (p ^ K) f x = 0)) (p.toNat ^ K)
theorem rootsR_mem {p : Int} (hp : 1 ≤ p) {K : Nat} {f : List Int} (x : Int) : x ∈ rootsR p K f ↔ 0 ≤ x ∧ x < p ^ K ∧ valM (p ^ K) f x = 0 := by
  have h2 : ((p.toNat ^ K : Nat) : Int) = p ^ K := by rw [Int.natCast_pow, Int.toNat_of_nonneg (by omega)]
  rw [rootsR, rootL_mem, h2]
  constructor
  · rintro ⟨a, b, c⟩; exact ⟨a, b, by simpa [Int.toNat_of_nonneg a] using c⟩
  · rintro ⟨a, b, c⟩; exact ⟨a, b, by simpa [Int.toNat_of_nonneg a] using c⟩
theorem rootsR_rise (p : Int) (K : Nat) (f : List Int) : (rootsR p K f).Pairwise (· < ·) := rootL_rise _ _
theorem rootsR_len {p n : Int} (hr : ringB p n = true) (f : List Int) : (rootsR p n.toNat f).length = rbS p n f := by
  rw [rootsR, rootL_len, rb_count hr]

/-! ### the numbers of a ball -/
def arith (r q : Int) : Nat → List Int
  | 0 => []
  | k + 1 => arith r q k ++ [r + q * k]
theorem arith_len (r q : Int) : ∀ k, (arith r q k).length = k
  | 0 => rfl
  | k + 1 => by rw [arith, List.length_append, arith_len r q k]; rfl
theorem arith_mem (r q x : Int) : ∀ s, x ∈ arith r q s ↔ ∃ k : Nat, k < s ∧ x = r + q * k
  | 0 => by simp [arith]
  | s + 1 => by
    rw [arith, List.mem_append, arith_mem r q x s, List.mem_singleton]
    constructor
    · rintro (⟨k, h1, h2⟩ | h)
      · exact ⟨k, by omega, h2⟩
      · exact ⟨s, by omega, h⟩
    · rintro ⟨k, h1, h2⟩
      by_cases e : k = s
      · subst e; exact .inr h2
      · exact .inl ⟨k, by omega, h2⟩
theorem arith_rise {r q : Int} (hq : 1 ≤ q) : ∀ s, (arith r q s).Pairwise (· < ·)
  | 0 => List.Pairwise.nil
  | s + 1 => by
    rw [arith, List.pairwise_append]
    refine ⟨arith_rise hq s, by simp, fun a ha b hb => ?_⟩
    obtain ⟨k, hk, rfl⟩ := (arith_mem r q a s).1 ha
    simp at hb
    subst hb
    have := Int.mul_lt_mul_of_pos_left (show (k : Int) < s by omega) (show 0 < q by omega)
    omega
theorem arith_in {r q : Int} (h0 : 0 ≤ r) (h1 : r < q) (s : Nat) (x : Int) : x ∈ arith r q s ↔ 0 ≤ x ∧ x < q * s ∧ x % q = r := by
  rw [arith_mem]
  constructor
  · rintro ⟨k, hk, rfl⟩
    have e1 := Int.mul_nonneg (show 0 ≤ q by omega) (show 0 ≤ (k : Int) by omega)
    have e2 := Int.mul_le_mul_of_nonneg_left (show (k : Int) + 1 ≤ s by omega) (show 0 ≤ q by omega)
    rw [Int.mul_add, Int.mul_one] at e2
    refine ⟨by omega, by omega, ?_⟩
    rw [Int.add_mul_emod_self_left, Int.emod_eq_of_lt h0 h1]
  · rintro ⟨a, b, c⟩
    have e := Int.mul_ediv_add_emod x q
    have e1 : 0 ≤ x / q := Int.ediv_nonneg a (by omega)
    refine ⟨(x / q).toNat, ?_, ?_⟩
    · have := Int.ediv_lt_of_lt_mul (show 0 < q by omega) (show x < s * q by rw [Int.mul_comm]; exact b)
      omega
    · rw [Int.toNat_of_nonneg e1]; omega
def expL (p : Int) (K : Nat) (L : List (Int × Nat)) : List Int := L.flatMap fun b => arith b.1 (p ^ b.2) (p.toNat ^ (K - b.2))
theorem expL_len (p : Int) (K : Nat) : ∀ L : List (Int × Nat), (expL p K L).length = sumB p K L
  | [] => rfl
  | b :: L => by
    have ih := expL_len p K L
    rw [expL] at ih ⊢
    rw [List.flatMap_cons, List.length_append, ih, arith_len, sumB]
theorem expL_append (p : Int) (K : Nat) (L M : List (Int × Nat)) : expL p K (L ++ M) = expL p K L ++ expL p K M := by simp [expL]
theorem exp_perm {p n : Int} (hr : ringB p n = true) (f : List Int) : (expL p n.toNat (rbL p n f)).Perm (rootsR p n.toNat f) := by
  obtain ⟨⟨p1, _⟩, ⟨n1, _⟩, _⟩ := ring_bd hr
  have hok := rb_ok hr f
  have hb : ∀ b ∈ rbL p n f, ∀ x, x ∈ arith b.1 (p ^ b.2) (p.toNat ^ (n.toNat - b.2)) ↔ 0 ≤ x ∧ x < p ^ n.toNat ∧ InB p b x := by
    intro b hb x
    obtain ⟨_, h1, h2, h3, _⟩ := hok.one b hb
    rw [arith_in h2 h3, Int.natCast_pow, Int.toNat_of_nonneg (by omega), ← Int.pow_add, show b.2 + (n.toNat - b.2) = n.toNat by omega]
    rfl
  refine perm_of (rootsR_rise ..) ?_ fun x => ?_
  · rw [expL]
    refine List.pairwise_flatMap.2 ⟨fun b _ => (arith_rise (pow_pos' (by omega) _) _).imp (fun h => by omega), ?_⟩
    refine List.Pairwise.imp_of_mem ?_ hok.apart
    intro b c hbm hcm hd x hx y hy hxy
    subst hxy
    exact hd x ((hb b hbm x).1 hx).2.2 ((hb c hcm x).1 hy).2.2
  · rw [rootsR_mem (by omega), expL, List.mem_flatMap, ← redM_val (p ^ n.toNat) f, valM_eq, iv_ev]
    have ha := hok.all x
    rw [Int.pow_zero, Int.one_mul, Int.zero_add, Int.dvd_iff_emod_eq_zero] at ha
    rw [ha]
    constructor
    · rintro ⟨b, hbm, hx⟩
      obtain ⟨a, c, d⟩ := (hb b hbm x).1 hx
      exact ⟨a, c, b, hbm, d⟩
    · rintro ⟨a, c, b, hbm, d⟩
      exact ⟨b, hbm, (hb b hbm x).2 ⟨a, c, d⟩⟩

/-! ### the reference's: digit by digit -/
def deepL (p : Int) (K : Nat) (f : List Int) : Nat → Int → Int → List Int
  | 0, x, q => if valM (p ^ K) f x = 0 then [x] else []
  | j + 1, x, q => (List.range p.toNat).flatMap fun d : Nat => if valM (q * p) f (x + d * q) = 0 then deepL p K f j (x + d * q) (q * p) else []
theorem ev_mod (m : Int) : ∀ (f : List Int) (x y : Int), x % m = y % m → ev f x % m = ev f y % m
  | [], _, _, _ => rfl
  | c :: f, x, y, h => by
    rw [ev, ev, Int.add_emod, Int.mul_emod, h, ev_mod m f x y h, ← Int.mul_emod, ← Int.add_emod]
theorem deepL_mem {p : Int} (hp : 2 ≤ p) (K : Nat) (f : List Int) (y : Int) : ∀ (j n : Nat) (x q : Int), n + j = K → q = p ^ n → 0 ≤ x → x < q → (y ∈ deepL p K f j x q ↔ (0 ≤ y ∧ y < p ^ K ∧ valM (p ^ K) f y = 0) ∧ y % q = x)
  | 0, n, x, q, hn, hq, h0, h1 => by
    obtain rfl : n = K := by omega
    rw [deepL]
    subst hq
    split
    · rename_i hv
      rw [List.mem_singleton]
      constructor
      · rintro rfl; exact ⟨⟨h0, h1, hv⟩, Int.emod_eq_of_lt h0 h1⟩
      · rintro ⟨⟨a, b, c⟩, d⟩; rw [← d, Int.emod_eq_of_lt a b]
    · rename_i hv
      constructor
      · intro h; cases h
      · rintro ⟨⟨a, b, c⟩, d⟩
        rw [Int.emod_eq_of_lt a b] at d
        subst d; contradiction
  | j + 1, n, x, q, hn, hq, h0, h1 => by
    have hq1 : q * p = p ^ (n + 1) := by rw [hq, Int.pow_succ]
    have hqp : 1 ≤ q := by omega
    rw [deepL, List.mem_flatMap]
    have step : ∀ d : Nat, (d : Int) < p → 0 ≤ x + d * q ∧ x + d * q < q * p := by
      intro d hd
      have e1 := Int.mul_nonneg (show 0 ≤ (d : Int) by omega) (show 0 ≤ q by omega)
      have e2 := Int.mul_le_mul_of_nonneg_right (show (d : Int) + 1 ≤ p by omega) (show 0 ≤ q by omega)
      rw [Int.add_mul, Int.one_mul] at e2
      rw [Int.mul_comm q p]
      omega
    constructor
    · rintro ⟨d, hd, hy⟩
      have hd : (d : Int) < p := by have := List.mem_range.1 hd; omega
      obtain ⟨s1, s2⟩ := step d hd
      split at hy
      · obtain ⟨a, b⟩ := (deepL_mem hp K f y j (n + 1) (x + d * q) (q * p) (by omega) hq1 s1 s2).1 hy
        refine ⟨a, ?_⟩
        rw [← Int.emod_emod_of_dvd y (show q ∣ q * p from ⟨p, rfl⟩), b, Int.add_mul_emod_self_right, Int.emod_eq_of_lt h0 h1]
      · cases hy
    · rintro ⟨⟨a, b, c⟩, e⟩
      have hyq : y % (q * p) % q = x := by rw [Int.emod_emod_of_dvd y (show q ∣ q * p from ⟨p, rfl⟩), e]
      have hz0 := Int.emod_nonneg y (show q * p ≠ 0 from by rw [hq1]; have := pow_pos' (show 1 ≤ p by omega) (n + 1); omega)
      have hz1 := Int.emod_lt_of_pos y (show 0 < q * p from by rw [hq1]; have := pow_pos' (show 1 ≤ p by omega) (n + 1); omega)
      have hz := Int.mul_ediv_add_emod (y % (q * p)) q
      rw [hyq] at hz
      have hd0 : 0 ≤ y % (q * p) / q := Int.ediv_nonneg hz0 (by omega)
      have hd1 : y % (q * p) / q < p := Int.ediv_lt_of_lt_mul (by omega) (by rw [Int.mul_comm p q]; exact hz1)
      refine ⟨(y % (q * p) / q).toNat, List.mem_range.2 (by omega), ?_⟩
      rw [Int.toNat_of_nonneg hd0]
      have hxd : x + y % (q * p) / q * q = y % (q * p) := by rw [Int.mul_comm]; omega
      rw [hxd]
      have hv : valM (q * p) f (y % (q * p)) = 0 := by
        rw [valM_eq, iv_ev] at c ⊢
        rw [ev_mod (q * p) f _ y (Int.emod_emod_of_dvd y (Int.dvd_refl _))]
        have hdv : q * p ∣ p ^ K := by rw [hq1]; exact pow_dvd' p (by omega)
        rw [← Int.emod_emod_of_dvd _ hdv, c]; simp
      rw [if_pos hv]
      exact (deepL_mem hp K f y j (n + 1) (y % (q * p)) (q * p) (by omega) hq1 hz0 hz1).2 ⟨⟨a, b, c⟩, rfl⟩
theorem deepL_nodup {p : Int} (hp : 2 ≤ p) (K : Nat) (f : List Int) : ∀ (j n : Nat) (x q : Int), n + j = K → q = p ^ n → 0 ≤ x → x < q → (deepL p K f j x q).Nodup
  | 0, n, x, q, hn, hq, h0, h1 => by rw [deepL]; split <;> simp
  | j + 1, n, x, q, hn, hq, h0, h1 => by
    have hq1 : q * p = p ^ (n + 1) := by rw [hq, Int.pow_succ]
    have step : ∀ d : Nat, (d : Int) < p → 0 ≤ x + d * q ∧ x + d * q < q * p := by
      intro d hd
      have e1 := Int.mul_nonneg (show 0 ≤ (d : Int) by omega) (show 0 ≤ q by omega)
      have e2 := Int.mul_le_mul_of_nonneg_right (show (d : Int) + 1 ≤ p by omega) (show 0 ≤ q by omega)
      rw [Int.add_mul, Int.one_mul] at e2
      rw [Int.mul_comm q p]
      omega
    have hmem : ∀ d : Nat, d ∈ List.range p.toNat → (d : Int) < p := fun d hd => by have := List.mem_range.1 hd; omega
    rw [deepL]
    refine List.pairwise_flatMap.2 ⟨fun d hd => ?_, ?_⟩
    · split
      · obtain ⟨s1, s2⟩ := step d (hmem d hd)
        exact deepL_nodup hp K f j (n + 1) _ _ (by omega) hq1 s1 s2
      · exact List.Pairwise.nil
    · refine List.Pairwise.imp_of_mem ?_ List.pairwise_lt_range
      intro c d hc hd hcd y hy z hz hyz
      subst hyz
      split at hy
      · split at hz
        · obtain ⟨s1, s2⟩ := step c (hmem c hc)
          obtain ⟨t1, t2⟩ := step d (hmem d hd)
          have e1 := ((deepL_mem hp K f y j (n + 1) _ _ (by omega) hq1 s1 s2).1 hy).2
          have e2 := ((deepL_mem hp K f y j (n + 1) _ _ (by omega) hq1 t1 t2).1 hz).2
          have := Int.mul_lt_mul_of_pos_right (show (c : Int) < d by omega) (show 0 < q by omega)
          omega
        · cases hz
      · cases hy
theorem deep_perm {p n : Int} (hr : ringB p n = true) (f : List Int) : (deepL p n.toNat f n.toNat 0 1).Perm (rootsR p n.toNat f) := by
  obtain ⟨⟨p1, _⟩, ⟨n1, _⟩, _⟩ := ring_bd hr
  refine perm_of (rootsR_rise ..) (deepL_nodup p1 _ f _ 0 0 1 (by omega) (by simp) (by omega) (by omega)) fun y => ?_
  rw [deepL_mem p1 _ f y _ 0 0 1 (by omega) (by simp) (by omega) (by omega), rootsR_mem (by omega)]
  simp

end Go.Proofs.Ytdkppikbneijaaa
