/- Points, corners, slopes and residual polynomials as lists: plain. -/
import Derived.Test.YtelpnpfmedlklaaKa
import Derived.Test.YtelpnpfmedlklaaOn
import Derived.Test.YtelpnpfmedlklaaG
namespace Go.Proofs.Ytelpnpfmedlklaa
set_option linter.unusedVariables false
set_option linter.unusedSimpArgs false

def ptsL (p : Int) (f : List Int) : Nat → List (Int × Int)
  | 0 => []
  | k + 1 => if el f k = 0 then ptsL p f k else ptsL p f k ++ [((k : Int), (vp p (el f k) : Int))]
/-- What is said of each point. -/
def PtOk (p : Int) (f : List Int) (n : Nat) (x : Int × Int) : Prop := 0 ≤ x.1 ∧ x.1 < n ∧ el f x.1.toNat ≠ 0 ∧ x.2 = (vp p (el f x.1.toNat) : Int)
theorem ptsL_ok (p : Int) (f : List Int) : ∀ n x, x ∈ ptsL p f n → PtOk p f n x
  | 0, x, h => by cases h
  | n + 1, x, h => by
    rw [ptsL] at h
    split at h
    · obtain ⟨a, b, c⟩ := ptsL_ok p f n x h
      exact ⟨a, by omega, c⟩
    · rw [List.mem_append, List.mem_singleton] at h
      rcases h with h | rfl
      · obtain ⟨a, b, c⟩ := ptsL_ok p f n x h
        exact ⟨a, by omega, c⟩
      · exact ⟨by simp, by show (n : Int) < (n : Int) + 1; omega, by simpa using by assumption, by simp⟩
theorem ptsL_rise (p : Int) (f : List Int) : ∀ n, (ptsL p f n).Pairwise (·.1 < ·.1)
  | 0 => List.Pairwise.nil
  | n + 1 => by
    rw [ptsL]
    split
    · exact ptsL_rise p f n
    · rw [List.pairwise_append]
      refine ⟨ptsL_rise p f n, by simp, fun a ha b hb => ?_⟩
      have := (ptsL_ok p f n a ha).2.1
      simp at hb
      subst hb
      exact this
theorem ptsL_len (p : Int) (f : List Int) : ∀ n, (ptsL p f n).length ≤ n
  | 0 => Nat.le_refl _
  | n + 1 => by have := ptsL_len p f n; rw [ptsL]; split <;> simp <;> omega
theorem ptsL_ne {p : Int} {f : List Int} (h : el f 0 ≠ 0) : ∀ n, 0 < n → ptsL p f n ≠ []
  | 0, h => by omega
  | n + 1, _ => by
    rw [ptsL]
    split
    · rename_i h0
      have : n ≠ 0 := by rintro rfl; exact h h0
      exact ptsL_ne h n (by omega)
    · simp
theorem ptsL_next0 {p : Int} {f : List Int} {n : Nat} (h : el f n = 0) : ptsL p f (n + 1) = ptsL p f n := by rw [ptsL, if_pos h]
theorem ptsL_next {p : Int} {f : List Int} {n : Nat} (h : el f n ≠ 0) : ptsL p f (n + 1) = ptsL p f n ++ [((n : Int), (vp p (el f n) : Int))] := by rw [ptsL, if_neg h]
def ptA (p : Int) (f : List Int) : List (Int × Int) := ptsL p f f.length
def ptG (P : List (Int × Int)) (i : Nat) : Int × Int := P.getD i (0, 0)
theorem ptG_get {P : List (Int × Int)} {i : Nat} (h : i < P.length) : ptG P i = P[i] := by rw [ptG, List.getD_eq_getElem?_getD, List.getElem?_eq_getElem h]; rfl
theorem ptG_mem {P : List (Int × Int)} {i : Nat} (h : i < P.length) : ptG P i ∈ P := by rw [ptG_get h]; exact List.getElem_mem _
theorem ptG_rise {P : List (Int × Int)} (hp : P.Pairwise (·.1 < ·.1)) {i j : Nat} (h : i < j) (hj : j < P.length) : (ptG P i).1 < (ptG P j).1 := by
  rw [ptG_get (by omega), ptG_get hj]
  exact List.pairwise_iff_getElem.1 hp i j (by omega) hj h
/-- The corners. -/
def polA (p : Int) (f : List Int) : List (Int × Int) := graG (ptG (ptA p f)) (ptA p f).length
theorem polA_ok (p : Int) (f : List Int) : (∀ x ∈ polA p f, PtOk p f f.length x) ∧ (polA p f).Pairwise (·.1 < ·.1) ∧ (polA p f).length ≤ f.length := by
  refine ⟨fun x hx => ?_, graG_rise _ (fun i j a b => ptG_rise (ptsL_rise p f _) a b), ?_⟩
  · obtain ⟨i, hi, rfl⟩ := graG_mem _ _ _ hx
    exact ptsL_ok p f _ _ (ptG_mem hi)
  · have h1 := graG_len (ptG (ptA p f)) (ptA p f).length
    have h2 := ptsL_len p f f.length
    unfold polA ptA at *; omega
theorem polA_jar {p : Int} {f : List Int} (h : ptA p f ≠ []) : polA p f = ptG (ptA p f) 0 :: jarG (ptG (ptA p f)) (ptA p f).length (ptA p f).length 0 := by
  obtain ⟨n, hn⟩ : ∃ n, (ptA p f).length = n + 1 := ⟨(ptA p f).length - 1, by have := List.length_pos_iff.2 h; omega⟩
  rw [polA, hn]
  exact (gra_jar n (fun i j a b => ptG_rise (ptsL_rise p f _) a (by rw [show ptsL p f f.length = ptA p f from rfl]; omega))).1

/-! ### bounds -/
theorem powD (p : Int) {a b : Nat} (h : a ≤ b) : p ^ a ∣ p ^ b := ⟨p ^ (b - a), by rw [← Int.pow_add]; congr 1; omega⟩
theorem vp_pow {p n b : Int} (hp : 2 ≤ p) (hn : n ≠ 0) (h1 : -b ≤ n) (h2 : n ≤ b) : p ^ vp p n ≤ b := by
  have hs := (vp_spec hp hn).1
  have hd : p ^ vp p n ∣ n := ⟨n / p ^ vp p n, by rw [Int.mul_comm]; exact hs⟩
  by_cases h : 0 ≤ n
  · exact Int.le_trans (Int.le_of_dvd (by omega) hd) h2
  · exact Int.le_trans (Int.le_of_dvd (show 0 < -n by omega) (Int.dvd_neg.2 hd)) (by omega)
theorem lt_powI {p : Int} (hp : 2 ≤ p) : ∀ k : Nat, (k : Int) < p ^ k
  | 0 => by simp
  | k + 1 => by
    have h1 := lt_powI hp k
    have h2 := Int.mul_le_mul_of_nonneg_left hp (show 0 ≤ p ^ k by omega)
    rw [Int.pow_succ]; omega
theorem PtOk.bd {p : Int} {f : List Int} {n : Nat} {x : Int × Int} (h : PtOk p f n x) (hp : 2 ≤ p) (hf : Bd 1000000 f) : 0 ≤ x.2 ∧ x.2 ≤ 1000000 ∧ p ^ x.2.toNat ≤ 1000000 := by
  obtain ⟨_, _, h3, h4⟩ := h
  have hb := hf x.1.toNat
  have := vp_pow hp h3 hb.1 hb.2
  have := lt_powI hp (vp p (el f x.1.toNat))
  rw [h4, Int.toNat_natCast]
  omega

/-! ### slopes: rise, run, length -/
def slpV (a b : Int × Int) : Int × Int × Int := ((b.2 - a.2) / (Int.gcd (b.2 - a.2) (b.1 - a.1) : Int), (b.1 - a.1) / (Int.gcd (b.2 - a.2) (b.1 - a.1) : Int), b.1 - a.1)
def sloL (C : List (Int × Int)) : Nat → List (Int × Int × Int)
  | 0 => []
  | k + 1 => sloL C k ++ [slpV (ptG C k) (ptG C (k + 1))]
theorem sloL_len (C : List (Int × Int)) : ∀ k, (sloL C k).length = k
  | 0 => rfl
  | k + 1 => by rw [sloL, List.length_append, sloL_len C k]; rfl
theorem sloL_get (C : List (Int × Int)) : ∀ k i (h : i < (sloL C k).length), (sloL C k)[i] = slpV (ptG C i) (ptG C (i + 1))
  | 0, i, h => by simp [sloL] at h
  | k + 1, i, h => by
    rw [sloL_len] at h
    by_cases e : i < k
    · have := sloL_get C k i (by rw [sloL_len]; exact e)
      simp only [sloL]
      rw [List.getElem_append_left (by rw [sloL_len]; exact e), this]
    · obtain rfl : i = k := by omega
      simp only [sloL]
      rw [List.getElem_append_right (by rw [sloL_len]; omega)]
      simp [sloL_len]
def sloA (p : Int) (f : List Int) : List (Int × Int × Int) := sloL (polA p f) ((polA p f).length - 1)
theorem slp_facts {a b : Int × Int} (h : a.1 < b.1) : 1 ≤ (Int.gcd (b.2 - a.2) (b.1 - a.1) : Int) ∧ (Int.gcd (b.2 - a.2) (b.1 - a.1) : Int) ≤ b.1 - a.1 ∧
    (slpV a b).1 * (Int.gcd (b.2 - a.2) (b.1 - a.1) : Int) = b.2 - a.2 ∧ (slpV a b).2.1 * (Int.gcd (b.2 - a.2) (b.1 - a.1) : Int) = b.1 - a.1 ∧ 1 ≤ (slpV a b).2.1 ∧
    (b.2 - a.2).tdiv (Int.gcd (b.2 - a.2) (b.1 - a.1) : Int) = (slpV a b).1 ∧ (b.1 - a.1).tdiv (Int.gcd (b.2 - a.2) (b.1 - a.1) : Int) = (slpV a b).2.1 := by
  have d1 : (Int.gcd (b.2 - a.2) (b.1 - a.1) : Int) ∣ b.2 - a.2 := Int.gcd_dvd_left ..
  have d2 : (Int.gcd (b.2 - a.2) (b.1 - a.1) : Int) ∣ b.1 - a.1 := Int.gcd_dvd_right ..
  have h0 : (Int.gcd (b.2 - a.2) (b.1 - a.1) : Int) ≠ 0 := by
    intro e
    rw [e] at d2
    have := Int.zero_dvd.1 d2
    omega
  have h1 : 0 ≤ (Int.gcd (b.2 - a.2) (b.1 - a.1) : Int) := Int.natCast_nonneg _
  have h2 := Int.le_of_dvd (by omega) d2
  have e1 := Int.ediv_mul_cancel d1
  have e2 := Int.ediv_mul_cancel d2
  have t1 := Int.tdiv_eq_ediv_of_dvd d1
  have t2 := Int.tdiv_eq_ediv_of_dvd d2
  unfold slpV
  generalize (Int.gcd (b.2 - a.2) (b.1 - a.1) : Int) = d at *
  refine ⟨by omega, h2, e1, e2, ?_, t1, t2⟩
  have : 0 < (b.1 - a.1) / d := by
    apply Decidable.byContradiction
    intro hh
    have := Int.mul_le_mul_of_nonneg_right (show (b.1 - a.1) / d ≤ 0 by omega) (show 0 ≤ d by omega)
    omega
  exact this

/-! ### the residual polynomial -/
def cellR (p c : Int) (y : Nat) : Int := if c % p ^ y = 0 then c / p ^ y % p else 0
def resN (p : Int) (f : List Int) (a : Int × Int) (s : Int × Int × Int) (n : Nat) : List Int := (List.range n).map fun j : Nat => cellR p (el f (a.1 + j * s.2.1).toNat) (a.2 + j * s.1).toNat
theorem resN_next (p : Int) (f : List Int) (a : Int × Int) (s : Int × Int × Int) (n : Nat) : resN p f a s (n + 1) = resN p f a s n ++ [cellR p (el f (a.1 + n * s.2.1).toNat) (a.2 + n * s.1).toNat] := by
  rw [resN, List.range_succ, List.map_append]; rfl
theorem resN_len (p : Int) (f : List Int) (a : Int × Int) (s : Int × Int × Int) (n : Nat) : (resN p f a s n).length = n := by simp [resN]
def resA (p : Int) (f : List Int) (i : Nat) : List Int := resN p f (ptG (polA p f) i) (slpV (ptG (polA p f) i) (ptG (polA p f) (i + 1))) (Int.gcd ((ptG (polA p f) (i + 1)).2 - (ptG (polA p f) i).2) ((ptG (polA p f) (i + 1)).1 - (ptG (polA p f) i).1) + 1)
theorem cellR_bd {p : Int} (hp : 1 ≤ p) (c : Int) (y : Nat) : 0 ≤ cellR p c y ∧ cellR p c y < p := by
  unfold cellR; split
  · exact emod_in _ hp
  · omega
theorem cellR_zero {p : Int} (y : Nat) : cellR p 0 y = 0 := by simp [cellR]
/-- As the reference has it. -/
theorem cellR_ref {p c : Int} (hp : 2 ≤ p) (hc : c ≠ 0) (y : Nat) : cellR p c y = if (vp p c : Int) = y then c / p ^ y % p else 0 := by
  have hs := vp_spec hp hc
  have hd : p ^ y ∣ c ↔ y ≤ vp p c := by
    constructor
    · intro h
      apply Decidable.byContradiction
      intro hh
      obtain ⟨q, hq⟩ := Int.dvd_trans (powD p (show vp p c + 1 ≤ y by omega)) h
      have hpp := pow_pos' (show 1 ≤ p by omega) (vp p c)
      have h4 := hs.2.1
      generalize vp p c = v at *
      have : c / p ^ v = p * q := by rw [hq, Int.pow_succ, Int.mul_assoc, Int.mul_ediv_cancel_left _ (by omega)]
      rw [this] at h4
      simp at h4
    · intro h
      exact Int.dvd_trans (powD p h) ⟨c / p ^ vp p c, by rw [Int.mul_comm]; exact hs.1⟩
  unfold cellR
  by_cases h1 : c % p ^ y = 0
  · rw [if_pos h1]
    by_cases h2 : (vp p c : Int) = y
    · rw [if_pos h2]
    · rw [if_neg h2]
      have h3 := hd.1 (Int.dvd_of_emod_eq_zero h1)
      have hyp := pow_pos' (show 1 ≤ p by omega) y
      have e : c / p ^ y = p * (c / p ^ vp p c * p ^ (vp p c - y - 1)) := by
        have : c = p ^ y * (p * (c / p ^ vp p c * p ^ (vp p c - y - 1))) := by
          have e2 : p ^ vp p c = p ^ y * (p * p ^ (vp p c - y - 1)) := by rw [← Int.pow_succ', ← Int.pow_add]; congr 1; omega
          have := hs.1
          conv => lhs; rw [this]
          generalize c / p ^ vp p c = N at *
          rw [e2]; grind
        conv => lhs; rw [this]
        exact Int.mul_ediv_cancel_left _ (by omega)
      rw [e]; simp
  · rw [if_neg h1, if_neg]
    intro e
    have e : vp p c = y := by omega
    exact h1 (Int.emod_eq_zero_of_dvd (hd.2 (by omega)))
/-- What is known of a piece and of the j-th place on it. -/
theorem seg_facts {p : Int} {f : List Int} {i : Nat} (hp : 2 ≤ p) (hf : Bd 1000000 f) (hi : i + 1 < (polA p f).length) {j d : Nat}
    (hd : d = Int.gcd ((ptG (polA p f) (i + 1)).2 - (ptG (polA p f) i).2) ((ptG (polA p f) (i + 1)).1 - (ptG (polA p f) i).1)) (hj : j ≤ d) :
    0 ≤ (ptG (polA p f) i).1 + j * (slpV (ptG (polA p f) i) (ptG (polA p f) (i + 1))).2.1 ∧ (ptG (polA p f) i).1 + j * (slpV (ptG (polA p f) i) (ptG (polA p f) (i + 1))).2.1 < f.length ∧
    0 ≤ (ptG (polA p f) i).2 + j * (slpV (ptG (polA p f) i) (ptG (polA p f) (i + 1))).1 ∧ (ptG (polA p f) i).2 + j * (slpV (ptG (polA p f) i) (ptG (polA p f) (i + 1))).1 ≤ 1000000 ∧
    p ^ ((ptG (polA p f) i).2 + j * (slpV (ptG (polA p f) i) (ptG (polA p f) (i + 1))).1).toNat ≤ 1000000 := by
  obtain ⟨k1, k2, _⟩ := polA_ok p f
  have ha := k1 _ (ptG_mem (show i < (polA p f).length by omega))
  have hb := k1 _ (ptG_mem hi)
  have hx := ptG_rise k2 (show i < i + 1 by omega) hi
  generalize ptG (polA p f) i = a at *
  generalize ptG (polA p f) (i + 1) = b at *
  obtain ⟨a1, a2, a3⟩ := ha.bd hp hf
  obtain ⟨b1, b2, b3⟩ := hb.bd hp hf
  obtain ⟨s1, s2, s3, s4, s5, _⟩ := slp_facts hx
  rw [← hd] at s1 s2 s3 s4
  generalize slpV a b = s at *
  have hJ : (j : Int) ≤ d := by omega
  have u1 := Int.mul_nonneg (show 0 ≤ (j : Int) by omega) (show 0 ≤ s.2.1 by omega)
  have u2 := Int.mul_le_mul_of_nonneg_right hJ (show 0 ≤ s.2.1 by omega)
  rw [Int.mul_comm (d : Int)] at u2
  have hy : (0 ≤ s.1 → 0 ≤ (j : Int) * s.1 ∧ (j : Int) * s.1 ≤ s.1 * d) ∧ (s.1 ≤ 0 → (j : Int) * s.1 ≤ 0 ∧ s.1 * d ≤ (j : Int) * s.1) := by
    constructor
    · intro h
      refine ⟨Int.mul_nonneg (by omega) h, ?_⟩
      rw [Int.mul_comm s.1]; exact Int.mul_le_mul_of_nonneg_right hJ h
    · intro h
      refine ⟨Int.mul_nonpos_of_nonneg_of_nonpos (by omega) h, ?_⟩
      rw [Int.mul_comm s.1]; exact Int.mul_le_mul_of_nonpos_right hJ h
  have hyy : 0 ≤ a.2 + j * s.1 ∧ (a.2 + j * s.1 ≤ a.2 ∨ a.2 + j * s.1 ≤ b.2) := by
    by_cases h : 0 ≤ s.1
    · obtain ⟨q1, q2⟩ := hy.1 h; omega
    · obtain ⟨q1, q2⟩ := hy.2 (by omega); omega
  refine ⟨by have := ha.1; omega, by have := hb.2.1; omega, hyy.1, by omega, ?_⟩
  rcases hyy.2 with h | h
  · exact Int.le_trans (pow_mono (by omega) (show (a.2 + j * s.1).toNat ≤ a.2.toNat by omega)) a3
  · exact Int.le_trans (pow_mono (by omega) (show (a.2 + j * s.1).toNat ≤ b.2.toNat by omega)) b3
/-- The last number is none that trimming takes away. -/
theorem res_trim {p : Int} {f : List Int} {i : Nat} (hp : 2 ≤ p) (hi : i + 1 < (polA p f).length) : trimL (resA p f i) = resA p f i := by
  obtain ⟨k1, k2, _⟩ := polA_ok p f
  have hb := k1 _ (ptG_mem hi)
  have hx := ptG_rise k2 (show i < i + 1 by omega) hi
  unfold resA
  generalize ptG (polA p f) i = a at *
  generalize ptG (polA p f) (i + 1) = b at *
  obtain ⟨s1, s2, s3, s4, s5, _⟩ := slp_facts hx
  generalize slpV a b = s at *
  generalize Int.gcd (b.2 - a.2) (b.1 - a.1) = d at *
  have hl : el (resN p f a s (d + 1)) d ≠ 0 := by
    rw [resN_next]
    have : el (resN p f a s d ++ [cellR p (el f (a.1 + d * s.2.1).toNat) (a.2 + d * s.1).toNat]) d = cellR p (el f (a.1 + d * s.2.1).toNat) (a.2 + d * s.1).toNat := by
      simp [el, List.getElem?_append, resN_len]
    rw [this, show a.1 + (d : Int) * s.2.1 = b.1 by rw [Int.mul_comm]; omega, show a.2 + (d : Int) * s.1 = b.2 by rw [Int.mul_comm]; omega, cellR_ref hp hb.2.2.1, hb.2.2.2, Int.toNat_natCast, if_pos rfl]
    exact (vp_spec hp hb.2.2.1).2.1
  rw [trimL, resN_len, trimN_stop hl, List.take_of_length_le (by rw [resN_len]; omega)]

end Go.Proofs.Ytelpnpfmedlklaa
