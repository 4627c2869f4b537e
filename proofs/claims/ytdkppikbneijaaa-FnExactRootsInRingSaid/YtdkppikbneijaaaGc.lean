/- How many numbers lie in the balls: plain. -/
import Derived.Test.YtdkppikbneijaaaGb
namespace Go.Proofs.Ytdkppikbneijaaa
set_option linter.unusedVariables false
set_option linter.unusedSimpArgs false

/-- How many of the numbers below n have the property. -/
def cntL (P : Nat → Bool) : Nat → Nat
  | 0 => 0
  | n + 1 => if P n then cntL P n + 1 else cntL P n
theorem cntL_le (P : Nat → Bool) : ∀ n, cntL P n ≤ n
  | 0 => Nat.le_refl _
  | n + 1 => by
    have := cntL_le P n
    rw [cntL]; split <;> omega
theorem cntL_congr {P Q : Nat → Bool} : ∀ {n : Nat}, (∀ x, x < n → P x = Q x) → cntL P n = cntL Q n
  | 0, _ => rfl
  | n + 1, h => by
    rw [cntL, cntL, cntL_congr (fun x hx => h x (by omega)), h n (by omega)]
theorem cntL_none : ∀ n, cntL (fun _ => false) n = 0
  | 0 => rfl
  | n + 1 => by rw [cntL, cntL_none n]; rfl
theorem cntL_or {P Q : Nat → Bool} : ∀ {n : Nat}, (∀ x, x < n → P x = true → Q x = true → False) → cntL (fun x => P x || Q x) n = cntL P n + cntL Q n
  | 0, _ => rfl
  | n + 1, h => by
    have ih := cntL_or (P := P) (Q := Q) (n := n) (fun x hx => h x (by omega))
    have hn := h n (by omega)
    rw [cntL, cntL, cntL, ih]
    cases hP : P n <;> cases hQ : Q n <;> simp [hP, hQ] at hn ⊢ <;> omega
theorem cntL_add (P : Nat → Bool) (a : Nat) : ∀ b, cntL P (a + b) = cntL P a + cntL (fun x => P (a + x)) b
  | 0 => rfl
  | b + 1 => by
    rw [← Nat.add_assoc, cntL, cntL, cntL_add P a b]
    split <;> omega
theorem cntL_one (r : Nat) : ∀ n, cntL (fun x => decide (x = r)) n = if r < n then 1 else 0
  | 0 => rfl
  | n + 1 => by
    rw [cntL, cntL_one r n]
    by_cases h1 : n = r
    · subst h1; simp
    · have : decide (n = r) = false := by simpa using h1
      rw [this]
      by_cases h2 : r < n
      · simp [h2, show r < n + 1 by omega]
      · simp [h2, show ¬ r < n + 1 by omega]
theorem cntL_mod {q r : Nat} (h : r < q) : ∀ s, cntL (fun x => decide (x % q = r)) (q * s) = s
  | 0 => rfl
  | s + 1 => by
    rw [Nat.mul_succ, cntL_add, cntL_mod h s]
    have : cntL (fun x => decide ((q * s + x) % q = r)) q = cntL (fun x => decide (x = r)) q := cntL_congr fun x hx => by
      rw [Nat.mul_add_mod, Nat.mod_eq_of_lt hx]
    rw [this, cntL_one, if_pos h]
/-- x lies in one of the balls. -/
def inAny (p : Int) (L : List (Int × Nat)) (x : Nat) : Bool := L.any fun b => decide ((x : Int) % p ^ b.2 = b.1)
def sumB (p : Int) (K : Nat) : List (Int × Nat) → Nat
  | [] => 0
  | b :: L => p.toNat ^ (K - b.2) + sumB p K L
theorem cnt_balls {p : Int} (hp : 1 ≤ p) (K : Nat) : ∀ L : List (Int × Nat), (∀ b ∈ L, b.2 ≤ K ∧ 0 ≤ b.1 ∧ b.1 < p ^ b.2) → (L.Pairwise fun b c => ∀ x, InB p b x → ¬ InB p c x) → cntL (inAny p L) (p.toNat ^ K) = sumB p K L
  | [], _, _ => cntL_none _
  | b :: L, h, hd => by
    obtain ⟨h1, h2, h3⟩ := h b List.mem_cons_self
    obtain ⟨d1, d2⟩ := List.pairwise_cons.1 hd
    obtain ⟨P, rfl⟩ : ∃ P : Nat, p = (P : Int) := ⟨p.toNat, by omega⟩
    obtain ⟨r, hr⟩ : ∃ r : Nat, b.1 = (r : Int) := ⟨b.1.toNat, by omega⟩
    have e1 : ((P : Int) ^ b.2) = ((P ^ b.2 : Nat) : Int) := by rw [Int.natCast_pow]
    have hl : cntL (fun x => decide ((x : Int) % (P : Int) ^ b.2 = b.1)) (P ^ K) = P ^ (K - b.2) := by
      have hr2 : r < P ^ b.2 := by rw [hr, e1] at h3; exact Int.ofNat_lt.1 h3
      have := cntL_mod hr2 (P ^ (K - b.2))
      rw [← Nat.pow_add, show b.2 + (K - b.2) = K by omega] at this
      refine Eq.trans (cntL_congr fun x _ => ?_) this
      rw [hr, e1, ← Int.natCast_emod]
      exact decide_eq_decide.2 Int.ofNat_inj
    rw [show inAny (P : Int) (b :: L) = (fun x : Nat => decide ((x : Int) % (P : Int) ^ b.2 = b.1) || inAny (P : Int) L x) from funext fun x => by simp [inAny], show (P : Int).toNat = P from Int.toNat_natCast P, cntL_or, hl, sumB, Int.toNat_natCast]
    · have ih := cnt_balls hp K L (fun c hc => h c (List.mem_cons_of_mem _ hc)) d2
      rw [Int.toNat_natCast] at ih
      rw [ih]
    · intro x _ hx hy
      obtain ⟨c, hc, hcx⟩ := List.any_eq_true.1 hy
      exact d1 c hc (x : Int) (show (x : Int) % (P : Int) ^ b.2 = b.1 from by simpa using hx) (show (x : Int) % (P : Int) ^ c.2 = c.1 from by simpa using hcx)
/-- As many numbers below the modulus are roots as the balls have. -/
theorem count_balls {p : Int} (hpr : primeB p = true) {F : List Int} {K : Nat} (hK : 1 ≤ K) : cntL (fun x => decide (valM (p ^ K) F x = 0)) (p.toNat ^ K) = sumB p K (ballsL p (K + 1) F K 0 0) := by
  have p2 := (primeB_iff.1 hpr).1
  have hb := balls_ok hpr (K + 1) F K 0 0 K hK (.inl ⟨by omega, by omega⟩) (by omega) (Int.le_refl 0) (by simp)
  rw [← cnt_balls (show 1 ≤ p by omega) K _ (fun b hb' => by obtain ⟨_, h1, h2, h3, _⟩ := hb.one b hb'; exact ⟨h1, h2, h3⟩) hb.apart]
  refine cntL_congr fun x _ => ?_
  have := hb.all x
  rw [valM_eq, iv_ev, inAny, Bool.eq_iff_iff, decide_eq_true_iff, List.any_eq_true]
  simp only [decide_eq_true_iff]
  rw [← Int.dvd_iff_emod_eq_zero, this]
  simp [InB]

end Go.Proofs.Ytdkppikbneijaaa
