/- The balls are all roots, and no two of them meet: plain. -/
import Derived.Test.YtdkppikbneijaaaGa
namespace Go.Proofs.Ytdkppikbneijaaa
set_option linter.unusedVariables false
set_option linter.unusedSimpArgs false

def ballsL (p : Int) : Nat → List Int → Nat → Int → Nat → List (Int × Nat)
  | 0, _, _, r, t => [(r, t)]
  | n + 1, F, k, r, t => if contL F = 0 ∨ k ≤ vp p (contL F) then [(r, t)] else
      (rtL p (F.map fun c => c / p ^ vp p (contL F)) p.toNat).flatMap fun a => ballsL p n (subL (p ^ (k - vp p (contL F))) a p (F.map fun c => c / p ^ vp p (contL F))) (k - vp p (contL F)) (r + a * p ^ t) (t + 1)
/-- x lies in the ball b. -/
def InB (p : Int) (b : Int × Nat) (x : Int) : Prop := x % p ^ b.2 = b.1
structure BallsOk (p : Int) (F : List Int) (k : Nat) (r : Int) (t : Nat) (m : Nat) (L : List (Int × Nat)) : Prop where
  one : ∀ b ∈ L, t ≤ b.2 ∧ b.2 ≤ m ∧ 0 ≤ b.1 ∧ b.1 < p ^ b.2 ∧ b.1 % p ^ t = r
  all : ∀ y, p ^ k ∣ ev F y ↔ ∃ b ∈ L, InB p b (r + p ^ t * y)
  apart : L.Pairwise fun b c => ∀ x, InB p b x → ¬ InB p c x
theorem rtL_iff (p : Int) (f : List Int) : ∀ k a, a ∈ rtL p f k ↔ (0 ≤ a ∧ a < k ∧ valM p f a = 0)
  | 0, a => by simp [rtL]; omega
  | k + 1, a => by
    have ih := rtL_iff p f k a
    rw [rtL]
    split
    · rw [List.mem_append, ih, List.mem_singleton]
      constructor
      · rintro (⟨h1, h2, h3⟩ | rfl)
        · exact ⟨h1, by omega, h3⟩
        · exact ⟨by omega, by omega, by assumption⟩
      · rintro ⟨h1, h2, h3⟩
        by_cases e : a = k
        · exact .inr e
        · exact .inl ⟨h1, by omega, h3⟩
    · rw [ih]
      constructor
      · rintro ⟨h1, h2, h3⟩; exact ⟨h1, by omega, h3⟩
      · rintro ⟨h1, h2, h3⟩
        refine ⟨h1, ?_, h3⟩
        by_cases e : a = k
        · subst e; contradiction
        · omega
theorem rtL_apart (p : Int) (f : List Int) : ∀ k, (rtL p f k).Pairwise (· < ·)
  | 0 => List.Pairwise.nil
  | k + 1 => by
    rw [rtL]
    split
    · rw [List.pairwise_append]
      refine ⟨rtL_apart p f k, by simp, fun a ha b hb => ?_⟩
      have := ((rtL_iff p f k a).1 ha).2.1
      simp at hb
      omega
    · exact rtL_apart p f k
theorem emod_pow {p x : Int} {s t : Nat} (h : t ≤ s) : x % p ^ s % p ^ t = x % p ^ t := Int.emod_emod_of_dvd _ (pow_dvd' p h)
theorem map_div {q : Int} (hq : q ≠ 0) {F : List Int} (h : ∀ i, q ∣ el F i) (i : Nat) : el F i = q * el (F.map fun c => c / q) i := by
  by_cases hi : i < F.length
  · have : el (F.map fun c => c / q) i = el F i / q := by
      have g := el_get hi
      rw [List.getElem?_eq_getElem hi] at g
      simp [el, List.getElem?_eq_getElem hi]
    rw [this, Int.mul_ediv_cancel' (h i)]
  · rw [el_out hi, el_out (by simpa using hi)]; simp
theorem ev_div {q : Int} (hq : q ≠ 0) {F : List Int} (h : ∀ i, q ∣ el F i) (y : Int) : ev F y = q * ev (F.map fun c => c / q) y := by
  rw [← ev_smul]
  exact ev_el (fun k => by rw [el_smul]; exact map_div hq h k) y
theorem balls_ok {p : Int} (hpr : primeB p = true) : ∀ (n : Nat) (F : List Int) (k : Nat) (r : Int) (t m : Nat), 1 ≤ k → (k + 1 < n + 1 ∧ t + k ≤ m ∨ (k < n + 1 ∧ t + k ≤ m + 1 ∧ ∀ i, p ∣ el F i)) → 0 < n → 0 ≤ r → r < p ^ t → BallsOk p F k r t m (ballsL p n F k r t)
  | 0, F, k, r, t, m, _, _, h0, _, _ => by omega
  | n + 1, F, k, r, t, m, hk, hn, h0, hr0, hr1 => by
    have p2 := (primeB_iff.1 hpr).1
    have hpt := pow_pos' (show 1 ≤ p by omega) t
    rw [ballsL]
    by_cases hc : contL F = 0 ∨ k ≤ vp p (contL F)
    · rw [if_pos hc]
      have hd : p ^ k ∣ contL F := by
        rcases hc with h | h
        · rw [h]; exact Int.dvd_zero _
        · by_cases hz : contL F = 0
          · rw [hz]; exact Int.dvd_zero _
          · exact (vp_dvd p2 hz k).2 h
      refine ⟨?_, fun y => ⟨fun _ => ⟨_, List.mem_singleton.2 rfl, ?_⟩, fun _ => ev_dvd (fun i => Int.dvd_trans hd (cont_el F i)) y⟩, List.pairwise_singleton ..⟩
      · intro b hb
        rw [List.mem_singleton.1 hb]
        exact ⟨Nat.le_refl _, by omega, hr0, hr1, Int.emod_eq_of_lt hr0 hr1⟩
      · show (r + p ^ t * y) % p ^ t = r
        rw [Int.add_mul_emod_self_left]
        exact Int.emod_eq_of_lt hr0 hr1
    · rw [if_neg hc]
      have hz : contL F ≠ 0 := fun h => hc (.inl h)
      have hv : vp p (contL F) < k := by
        apply Decidable.byContradiction
        intro h
        exact hc (.inr (by omega))
      have hvd : ∀ i, p ^ vp p (contL F) ∣ el F i := fun i => Int.dvd_trans ((vp_dvd p2 hz _).2 (Nat.le_refl _)) (cont_el F i)
      have hv1 : (∀ i, p ∣ el F i) → 1 ≤ vp p (contL F) := fun h => (vp_dvd p2 hz 1).1 (by rw [Int.pow_succ, Int.pow_zero, Int.one_mul]; exact cont_of h)
      generalize vp p (contL F) = v at *
      have hq : p ^ v ≠ 0 := by have := pow_pos' (show 1 ≤ p by omega) v; omega
      have hev := ev_div hq hvd
      generalize (F.map fun c => c / p ^ v) = g at *
      have hsub : ∀ a z, p ^ (k - v) ∣ ev (subL (p ^ (k - v)) a p g) z ↔ p ^ (k - v) ∣ ev g (a + p * z) := by
        intro a z
        obtain ⟨h, e⟩ := subL_cg (p ^ (k - v)) a p g
        rw [e z, ev_comp]
        constructor
        · intro hd
          have := Int.dvd_sub hd (Int.dvd_mul_right (p ^ (k - v)) (ev h z))
          rwa [Int.add_sub_cancel] at this
        · intro hd
          exact Int.dvd_add hd (Int.dvd_mul_right _ _)
      have hpm : p ∣ p ^ (k - v) := ⟨p ^ (k - v - 1), by rw [Int.mul_comm, ← Int.pow_succ]; congr 1; omega⟩
      have hroot : ∀ a, a ∈ rtL p g p.toNat ↔ (0 ≤ a ∧ a < p ∧ p ∣ ev g a) := by
        intro a
        rw [rtL_iff, valM_eq, iv_ev, Int.toNat_of_nonneg (by omega)]
        constructor
        · rintro ⟨a1, a2, a3⟩; exact ⟨a1, a2, Int.dvd_of_emod_eq_zero a3⟩
        · rintro ⟨a1, a2, a3⟩; exact ⟨a1, a2, Int.emod_eq_zero_of_dvd a3⟩
      have hdiv : ∀ a, p ∣ ev g a → ∀ i, p ∣ el (subL (p ^ (k - v)) a p g) i := by
        intro a ha i
        have h1 := (subL_cg (p ^ (k - v)) a p g).el i
        have h2 : p ∣ el (compR a p g) i := by
          cases i with
          | zero => rw [comp_el0]; exact ha
          | succ i => exact comp_dvd a p g i
        have h3 : p ∣ el (subL (p ^ (k - v)) a p g) i := Int.dvd_of_emod_eq_zero (by
          rw [← Int.emod_emod_of_dvd _ hpm, h1, Int.emod_emod_of_dvd _ hpm]
          exact Int.emod_eq_zero_of_dvd h2)
        exact h3
      have hrb : ∀ a, 0 ≤ a → a < p → 0 ≤ r + a * p ^ t ∧ r + a * p ^ t < p ^ (t + 1) := by
        intro a a0 a1
        have h1 := Int.mul_nonneg a0 (show 0 ≤ p ^ t by omega)
        have h2 := Int.mul_le_mul_of_nonneg_right (show a ≤ p - 1 by omega) (show 0 ≤ p ^ t by omega)
        have h3 : (p - 1) * p ^ t = p ^ (t + 1) - p ^ t := by rw [Int.pow_succ]; grind
        omega
      have ih : ∀ a, a ∈ rtL p g p.toNat → BallsOk p (subL (p ^ (k - v)) a p g) (k - v) (r + a * p ^ t) (t + 1) m (ballsL p n (subL (p ^ (k - v)) a p g) (k - v) (r + a * p ^ t) (t + 1)) := by
        intro a ha
        obtain ⟨a0, a1, a2⟩ := (hroot a).1 ha
        obtain ⟨b0, b1⟩ := hrb a a0 a1
        refine balls_ok hpr n _ _ _ _ m (by omega) (.inr ⟨?_, ?_, hdiv a a2⟩) ?_ b0 b1
        · rcases hn with h | ⟨h, _, hF⟩
          · omega
          · have := hv1 hF; omega
        · rcases hn with h | ⟨h, _, hF⟩
          · omega
          · have := hv1 hF; omega
        · rcases hn with h | ⟨h, _, hF⟩
          · omega
          · have := hv1 hF; omega
      have hmod : ∀ a, 0 ≤ a → a < p → ∀ b : Int × Nat, t + 1 ≤ b.2 → b.1 % p ^ (t + 1) = r + a * p ^ t → ∀ x, InB p b x → x % p ^ (t + 1) = r + a * p ^ t := by
        intro a a0 a1 b hb1 hb2 x hx
        rw [← hb2, ← hx, emod_pow hb1]
      have hone : ∀ b ∈ ((rtL p g p.toNat).flatMap fun a => ballsL p n (subL (p ^ (k - v)) a p g) (k - v) (r + a * p ^ t) (t + 1)), t ≤ b.2 ∧ b.2 ≤ m ∧ 0 ≤ b.1 ∧ b.1 < p ^ b.2 ∧ b.1 % p ^ t = r := by
        intro b hb
        obtain ⟨a, ha, hb⟩ := List.mem_flatMap.1 hb
        obtain ⟨a0, a1, _⟩ := (hroot a).1 ha
        obtain ⟨c1, c2, c3, c4, c5⟩ := (ih a ha).one b hb
        refine ⟨by omega, c2, c3, c4, ?_⟩
        rw [← emod_pow (s := t + 1) (by omega), c5, Int.add_mul_emod_self_right]
        exact Int.emod_eq_of_lt hr0 hr1
      refine ⟨hone, fun y => ?_, ?_⟩
      · have hy : y = y % p + p * (y / p) := (Int.emod_add_mul_ediv y p).symm
        have hx : r + p ^ t * y = (r + y % p * p ^ t) + p ^ (t + 1) * (y / p) := by
          conv => lhs; rw [hy]
          rw [Int.pow_succ]; grind
        have y0 := Int.emod_nonneg y (show p ≠ 0 by omega)
        have y1 := Int.emod_lt_of_pos y (show 0 < p by omega)
        have hk2 : p ^ k ∣ ev F y ↔ p ^ (k - v) ∣ ev g y := by
          rw [hev, show k = v + (k - v) by omega, Int.pow_add, show v + (k - v) - v = k - v by omega]
          exact Int.mul_dvd_mul_iff_left hq
        rw [hk2]
        constructor
        · intro hd
          have hgy : p ∣ ev g (y % p) := by
            have h1 : p ∣ ev g y := Int.dvd_trans hpm hd
            have h2 := iv_congr p g (x := y % p) (y := y) (by rw [Int.emod_emod_of_dvd _ (Int.dvd_refl p)])
            rw [iv_ev, iv_ev] at h2
            exact Int.dvd_of_emod_eq_zero (by rw [h2]; exact Int.emod_eq_zero_of_dvd h1)
          have ha := (hroot (y % p)).2 ⟨y0, y1, hgy⟩
          have hs := (hsub (y % p) (y / p)).2 (by rw [← hy]; exact hd)
          obtain ⟨b, hb, hbx⟩ := ((ih _ ha).all (y / p)).1 hs
          exact ⟨b, List.mem_flatMap.2 ⟨_, ha, hb⟩, by rw [hx]; exact hbx⟩
        · rintro ⟨b, hb, hbx⟩
          obtain ⟨a, ha, hb⟩ := List.mem_flatMap.1 hb
          obtain ⟨a0, a1, a2⟩ := (hroot a).1 ha
          obtain ⟨c1, _, _, _, c5⟩ := (ih a ha).one b hb
          have h1 := hmod a a0 a1 b c1 c5 _ hbx
          rw [hx, Int.add_mul_emod_self_left] at h1
          obtain ⟨d0, d1⟩ := hrb _ y0 y1
          rw [Int.emod_eq_of_lt d0 d1] at h1
          have hay : a = y % p := by
            have h2 : y % p * p ^ t = a * p ^ t := by omega
            exact (Int.eq_of_mul_eq_mul_right (by omega) h2).symm
          subst hay
          rw [hx] at hbx
          have hs := ((ih _ ha).all (y / p)).2 ⟨b, hb, hbx⟩
          have := (hsub (y % p) (y / p)).1 hs
          rwa [← hy] at this
      · rw [List.flatMap_def, List.pairwise_flatten]
        refine ⟨fun l hl => ?_, ?_⟩
        · obtain ⟨a, ha, rfl⟩ := List.mem_map.1 hl
          exact (ih a ha).apart
        · rw [List.pairwise_map]
          refine (rtL_apart p g p.toNat).imp_of_mem fun {a a'} ha ha' hlt b hb b' hb' x h1 h2 => ?_
          obtain ⟨a0, a1, _⟩ := (hroot a).1 ha
          obtain ⟨a0', a1', _⟩ := (hroot a').1 ha'
          obtain ⟨c1, _, _, _, c5⟩ := (ih a ha).one b hb
          obtain ⟨c1', _, _, _, c5'⟩ := (ih a' ha').one b' hb'
          have e1 := hmod a a0 a1 b c1 c5 x h1
          have e2 := hmod a' a0' a1' b' c1' c5' x h2
          have h2 : a * p ^ t = a' * p ^ t := by omega
          have := Int.eq_of_mul_eq_mul_right (by omega) h2
          omega

end Go.Proofs.Ytdkppikbneijaaa
