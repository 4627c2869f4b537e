/- The product of all symbols in a table is 1: plain. -/
import Derived.Test.YtjampkjgapkklaaZd
import Derived.Test.YtjampkjgapkklaaBb
namespace Go.Proofs.Ytjampkjgapkklaa
set_option linter.unusedVariables false
set_option linter.unusedSimpArgs false

theorem allP_step : (List.range 96).all (fun k => decide (allP.filter (fun q => decide (q < (k : Int) + 3)) = if primeB ((k : Int) + 2) then allP.filter (fun q => decide (q < (k : Int) + 2)) ++ [(k : Int) + 2] else allP.filter (fun q => decide (q < (k : Int) + 2)))) = true := by decide +kernel
theorem allP_all : allP.filter (fun q => decide (q < ((96 : Nat) : Int) + 2)) = allP := by decide +kernel
theorem allP_none : allP.filter (fun q => decide (q < ((0 : Nat) : Int) + 2)) = [] := by decide +kernel
theorem allP_prime : (List.range 98).all (fun k => !primeB (k : Int) || allP.contains (k : Int)) = true := by decide +kernel
theorem mem_allP {p : Int} (h : primeB p = true) (h97 : p ≤ 97) : p ∈ allP := by
  have h2 := (primeB_iff.1 h).1
  have := List.all_eq_true.1 allP_prime p.toNat (List.mem_range.2 (by omega))
  rw [Int.toNat_of_nonneg (by omega), h] at this
  simpa using this
theorem Smooth.pow {p : Int} (h : p ∈ allP) : ∀ n : Nat, Smooth (p ^ n)
  | 0 => by rw [Int.pow_zero]; exact Smooth.one
  | n + 1 => by rw [Int.pow_succ]; exact (Smooth.pow h n).mul (.gen (List.mem_cons_of_mem _ h))
/-- No prime from q on divides s. -/
def Low (q s : Int) : Prop := ∀ r : Int, primeB r = true → q ≤ r → vp r s = 0
theorem vp_unit {r : Int} (h : 2 ≤ r) : vp r 1 = 0 := vp_zero h (by rw [Int.emod_eq_of_lt (by omega) (by omega)]; omega)
theorem vp_powz {r p : Int} (hr : primeB r = true) (hp : 1 ≤ p) (hlt : p < r) : ∀ n : Nat, vp r (p ^ n) = 0
  | 0 => by rw [Int.pow_zero]; exact vp_unit (primeB_iff.1 hr).1
  | n + 1 => by
    rw [Int.pow_succ, (vp_mul hr (by have := pow_pos' hp n; omega) (by omega)).1, vp_powz hr hp hlt n, vp_zero (primeB_iff.1 hr).1 (by rw [Int.emod_eq_of_lt (by omega) (by omega)]; omega)]
theorem Low.step {q s : Int} {n : Nat} (h : Low q s) (hs : s ≠ 0) (hq : 1 ≤ q) : Low (q + 1) (s * q ^ n) := by
  intro r hr hle
  rw [(vp_mul hr hs (by have := pow_pos' hq n; omega)).1, h r hr (by omega), vp_powz hr hq (by omega)]
theorem Low.mono {q s : Int} (h : Low q s) : Low (q + 1) s := fun r hr hle => h r hr (by omega)
/-- The number a is s times what is left, A. -/
structure Part (a : Int) (q A : Int) : Prop where
  ex : ∃ s, a = s * A ∧ Smooth s ∧ Low q s ∧ A ≠ 0
theorem Part.start {a : Int} (h : a ≠ 0) : Part a 2 a := ⟨1, by omega, Smooth.one, fun r hr _ => vp_unit (primeB_iff.1 hr).1, h⟩
theorem Part.mono {a q A : Int} (h : Part a q A) : Part a (q + 1) A := by
  obtain ⟨s, h1, h2, h3, h4⟩ := h.ex
  exact ⟨s, h1, h2, h3.mono, h4⟩
theorem Part.step {a q A : Int} (h : Part a q A) (hq : primeB q = true) (h97 : q ≤ 97) : Part a (q + 1) (uq q A) := by
  obtain ⟨s, h1, h2, h3, h4⟩ := h.ex
  have q2 := (primeB_iff.1 hq).1
  have e := (vp_spec q2 h4).1
  refine ⟨s * q ^ vp q A, ?_, h2.mul (Smooth.pow (mem_allP hq h97) _), h3.step h2.ne (by omega), ?_⟩
  · rw [h1]; unfold uq; conv => lhs; rw [e]
    grind
  · unfold uq
    intro e0
    rw [e0] at e
    simp at e
    exact h4 e
theorem Part.vp {a q A : Int} (h : Part a q A) (hq : primeB q = true) : vp q a = vp q A := by
  obtain ⟨s, h1, h2, h3, h4⟩ := h.ex
  rw [h1, (vp_mul hq h2.ne h4).1, h3 q hq (by omega)]; omega
theorem Part.fin {a q A : Int} (h : Part a q A) (hA : A.natAbs = 1) : Smooth a := by
  obtain ⟨s, h1, h2, h3, h4⟩ := h.ex
  rw [h1]
  refine h2.mul ?_
  rcases (show A = 1 ∨ A = -1 by omega) with rfl | rfl
  · exact Smooth.one
  · exact Smooth.neg
/-- A prime that divides neither number has the symbol 1. -/
theorem hilV_one {p a b : Int} (h2 : p ≠ 2) (hp : 2 ≤ p) (ha : vp p a = 0) (hb : vp p b = 0) : hilV p a b = 1 := by
  unfold hilV
  rw [if_neg (by omega), if_neg h2, ha, hb]
  unfold hilP
  rw [if_neg (by decide), if_neg (by decide)]
  simp [signV]
theorem prod_app : ∀ (L M : List Int), (L ++ M).prod = L.prod * M.prod
  | [], M => by simp
  | x :: L, M => by rw [List.cons_append, List.prod_cons, List.prod_cons, prod_app L M]; grind
theorem prod_one (x : Int) : [x].prod = x := by rw [List.prod_cons]; simp
theorem badS_part {a b : Int} (ha : a ≠ 0) (hb : b ≠ 0) : ∀ k : Nat, k ≤ 96 → Part a ((k : Int) + 2) (badS a b k).1 ∧ Part b ((k : Int) + 2) (badS a b k).2.1 ∧ ((badS a b k).2.2.map fun p => hilV p a b).prod = ((allP.filter fun q => decide (q < (k : Int) + 2)).map fun p => hilV p a b).prod
  | 0, _ => ⟨Part.start ha, Part.start hb, by rw [allP_none]; rfl⟩
  | k + 1, hk => by
    obtain ⟨i1, i2, i3⟩ := badS_part ha hb k (by omega)
    have hst := of_decide_eq_true (List.all_eq_true.1 allP_step k (List.mem_range.2 (by omega)))
    have ek : ((k + 1 : Nat) : Int) + 2 = (k : Int) + 2 + 1 := by omega
    have ek3 : (k : Int) + 2 + 1 = (k : Int) + 3 := by omega
    rw [ek, show (allP.filter fun q => decide (q < (k : Int) + 2 + 1)) = allP.filter (fun q => decide (q < (k : Int) + 3)) by rw [ek3], hst]
    rw [badS, badStep]
    generalize badS a b k = st at *
    obtain ⟨A, B, L⟩ := st
    simp only at i1 i2 i3
    by_cases hp : primeB ((k : Int) + 2) = true
    · rw [if_pos hp, if_pos hp]
      refine ⟨i1.step hp (by omega), i2.step hp (by omega), ?_⟩
      simp only
      rw [List.map_append, prod_app, ← i3]
      by_cases hd : (k : Int) + 2 = 2 ∨ A % ((k : Int) + 2) = 0 ∨ B % ((k : Int) + 2) = 0
      · rw [if_pos hd, List.map_append, prod_app]
      · rw [if_neg hd]
        have e1 : vp ((k : Int) + 2) a = 0 := by rw [i1.vp hp]; exact vp_zero (by omega) (fun e => hd (.inr (.inl e)))
        have e2 : vp ((k : Int) + 2) b = 0 := by rw [i2.vp hp]; exact vp_zero (by omega) (fun e => hd (.inr (.inr e)))
        rw [List.map_cons, List.map_nil, prod_one, hilV_one (fun e => hd (.inl e)) (by omega) e1 e2]
        omega
    · rw [if_neg hp, if_neg hp]
      exact ⟨i1.mono, i2.mono, i3⟩
theorem tabL_prod {a b : Int} (h : badC a b = 0) : (tabL a b).prod = 1 := by
  obtain ⟨na, nb, e⟩ := badL_zero h
  have ha := (nz_iff.1 na).2
  have hb := (nz_iff.1 nb).2
  obtain ⟨p1, p2, p3⟩ := badS_part ha hb 96 (by omega)
  have hf : badFin (badS a b 96) = true := by
    unfold badC at h
    rw [if_pos na, if_pos nb] at h
    apply Decidable.byContradiction
    intro hf
    rw [if_neg hf] at h
    cases h
  unfold badFin at hf
  simp only [Bool.and_eq_true, decide_eq_true_eq] at hf
  have hs := hilF_smooth (p1.fin hf.1) (p2.fin hf.2)
  unfold hilF at hs
  unfold tabL tabP
  rw [if_pos h, List.map_cons, List.prod_cons, e, p3, allP_all]
  exact hs
theorem tabL_len {a b : Int} (h : badC a b = 0) : (tabL a b).length = (badL a b).length + 1 := by
  unfold tabL tabP; rw [if_pos h]; simp
theorem hil_bd (p a b : Int) : -1 ≤ hilV p a b ∧ hilV p a b ≤ 1 := by
  have s : ∀ n, -1 ≤ signV n ∧ signV n ≤ 1 := fun n => by rcases signV_cases n with h | h <;> rw [h] <;> omega
  have l : ∀ u, -1 ≤ legV p u ∧ legV p u ≤ 1 := fun u => by rcases legV_cases p u with h | h | h <;> rw [h] <;> omega
  unfold hilV
  split
  · split <;> omega
  · split
    · exact s _
    · unfold hilP
      refine one_mul_bd (one_mul_bd (s _) ?_) ?_
      · split
        · exact l _
        · omega
      · split
        · exact l _
        · omega
theorem tabL_bd {a b : Int} : ∀ x ∈ tabL a b, -1 ≤ x ∧ x ≤ 1 := by
  intro x hx
  unfold tabL at hx
  split at hx
  · obtain ⟨p, _, rfl⟩ := List.mem_map.1 hx
    exact hil_bd p a b
  · simp at hx
theorem prod_bd : ∀ L : List Int, (∀ x ∈ L, -1 ≤ x ∧ x ≤ 1) → -1 ≤ L.prod ∧ L.prod ≤ 1
  | [], _ => by simp
  | x :: L, h => by
    rw [List.prod_cons]
    exact one_mul_bd (h x (List.mem_cons_self)) (prod_bd L (fun y hy => h y (List.mem_cons_of_mem _ hy)))
theorem prod_take_step {L : List Int} {k : Nat} (h : k < L.length) : (L.take (k + 1)).prod = (L.take k).prod * el L k := by
  rw [List.take_add_one, el_get h, prod_app]
  simp
theorem gens_of {p : Int} (h : p ∈ allP) (h2 : p ≠ 2) : ∃ x ∈ gensL, x.1 = p := by
  rcases List.mem_cons.1 h with h | h
  · exact absurd h h2
  · obtain ⟨x, hx, e⟩ := List.mem_map.1 h
    exact ⟨x, hx, e⟩
theorem hilV_unit {p a b : Int} (hp : p = 0 ∨ smallB p = true) (ha : a ≠ 0) (hb : b ≠ 0) : hilV p a b = 1 ∨ hilV p a b = -1 := by
  unfold hilV
  by_cases h0 : p = 0
  · rw [if_pos h0]; split
    · exact .inr rfl
    · exact .inl rfl
  · rw [if_neg h0]
    by_cases h2 : p = 2
    · rw [if_pos h2]; exact signV_cases _
    · rw [if_neg h2]
      have hs : smallB p = true := by rcases hp with h | h; exact absurd h h0; exact h
      have hbd := small_bd hs
      unfold smallB at hs
      rw [Bool.and_eq_true] at hs
      obtain ⟨x, hx, rfl⟩ := gens_of (mem_allP hs.2 hbd.2) h2
      have u : ∀ {n : Int}, n ≠ 0 → legV x.1 (n / x.1 ^ vp x.1 n) = 1 ∨ legV x.1 (n / x.1 ^ vp x.1 n) = -1 := by
        intro n hn
        have := (vp_spec hbd.1 hn).2.1
        rcases legV_cases x.1 (n / x.1 ^ vp x.1 n) with h | h | h
        · exact absurd ((leg_ne hx).1 h) this
        · exact .inl h
        · exact .inr h
      unfold hilP
      have e1 : ∀ {c d : Int}, (c = 1 ∨ c = -1) → (d = 1 ∨ d = -1) → (c * d = 1 ∨ c * d = -1) := by
        intro c d hc hd
        rcases hc with rfl | rfl <;> rcases hd with rfl | rfl <;> simp
      refine e1 (e1 (signV_cases _) ?_) ?_
      · split
        · exact u ha
        · exact .inl rfl
      · split
        · exact u hb
        · exact .inl rfl

end Go.Proofs.Ytjampkjgapkklaa
