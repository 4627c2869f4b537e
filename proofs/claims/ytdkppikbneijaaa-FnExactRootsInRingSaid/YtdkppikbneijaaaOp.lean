/- Values of polynomials by a modulus, Newton's step, the lifting of a simple root. -/
import Derived.Test.YtdkppikbneijaaaOm
import Derived.Test.YtdkppikbneijaaaG
namespace Go.Proofs.Ytdkppikbneijaaa
open Go.RowKit
set_option linter.unusedVariables false
set_option linter.unusedSimpArgs false

/-- The value at x (from the last coefficient down), its derivative, the same by m. -/
def ivS (f : List Int) (x : Int) : Nat → Int
  | 0 => 0
  | j + 1 => ivS f x j * x + el f (f.length - 1 - j)
def dvS (f : List Int) (x : Int) : Nat → Int
  | 0 => 0
  | j + 1 => dvS f x j * x + ivS f x j
def hvS (m : Int) (f : List Int) (x : Int) : Nat → Int
  | 0 => 0
  | j + 1 => (hvS m f x j * x + el f (f.length - 1 - j)) % m
def iv (f : List Int) (x : Int) : Int := ivS f x f.length
def valM (m : Int) (f : List Int) (x : Int) : Int := hvS m f x f.length
theorem hvS_eq (m : Int) (f : List Int) (x : Int) : ∀ j, hvS m f x j = ivS f x j % m
  | 0 => by simp [hvS, ivS]
  | j + 1 => by
    rw [hvS, ivS, hvS_eq m f x j, Int.add_emod, Int.mul_emod, Int.emod_emod_of_dvd _ (Int.dvd_refl m), ← Int.mul_emod, ← Int.add_emod]
theorem valM_eq (m : Int) (f : List Int) (x : Int) : valM m f x = iv f x % m := hvS_eq m f x _
theorem hvS_bd {m : Int} (hm : 1 ≤ m) (f : List Int) (x : Int) (j : Nat) : 0 ≤ hvS m f x j ∧ hvS m f x j < m := by rw [hvS_eq]; exact emod_in _ hm
theorem valM_bd {m : Int} (hm : 1 ≤ m) (f : List Int) (x : Int) : 0 ≤ valM m f x ∧ valM m f x < m := hvS_bd hm f x _
/-- Taylor's first terms. -/
theorem taylor (f : List Int) (x h : Int) : ∀ j, ∃ g, ivS f (x + h) j = ivS f x j + h * dvS f x j + h * h * g
  | 0 => ⟨0, by simp [ivS, dvS]⟩
  | j + 1 => by
    obtain ⟨g, hg⟩ := taylor f x h j
    refine ⟨dvS f x j + g * x + h * g, ?_⟩
    rw [ivS, ivS, dvS, hg]
    generalize ivS f x j = I
    generalize dvS f x j = D
    generalize el f (f.length - 1 - j) = c
    grind
theorem der_rel (f : List Int) (x : Int) : ∀ j, j + 1 ≤ f.length → ivS (derL f) x j = dvS f x (j + 1) + ((f.length : Int) - 1 - j) * ivS f x j
  | 0, _ => by simp [ivS, dvS]
  | j + 1, h => by
    have ih := der_rel f x j (by omega)
    have hl := derL_len f
    have he : el (derL f) ((derL f).length - 1 - j) = ((f.length : Int) - 1 - j) * el f (f.length - 1 - j) := by
      rw [derL_el (by omega), hl]
      rw [show f.length - 1 - 1 - j + 1 = f.length - 1 - j by omega]
      congr 1
      omega
    have e1 : dvS f x (j + 1 + 1) = dvS f x (j + 1) * x + ivS f x (j + 1) := rfl
    have e2 : ivS f x (j + 1) = ivS f x j * x + el f (f.length - 1 - j) := rfl
    have e3 : ivS (derL f) x (j + 1) = ivS (derL f) x j * x + el (derL f) ((derL f).length - 1 - j) := rfl
    rw [e3, he, ih, e1, e2]
    rw [show (((j + 1 : Nat) : Int)) = (j : Int) + 1 by omega]
    clear e1 e2 e3 he ih hl h
    generalize ivS f x j = I
    generalize dvS f x (j + 1) = D
    generalize el f (f.length - 1 - j) = c
    generalize (f.length : Int) = n
    generalize (j : Int) = t
    grind
theorem der_iv (f : List Int) (x : Int) : iv (derL f) x = dvS f x f.length := by
  rw [iv, derL_len]
  by_cases h0 : f.length = 0
  · rw [h0]; simp [ivS, dvS]
  · have := der_rel f x (f.length - 1) (by omega)
    rw [this, show f.length - 1 + 1 = f.length by omega]
    have e : (f.length : Int) - 1 - ((f.length - 1 : Nat) : Int) = 0 := by omega
    rw [e]; omega
theorem iv_taylor (f : List Int) (x h : Int) : ∃ g, iv f (x + h) = iv f x + h * iv (derL f) x + h * h * g := by
  rw [der_iv]; exact taylor f x h f.length
theorem iv_congr (m : Int) (f : List Int) {x y : Int} (h : x % m = y % m) : iv f x % m = iv f y % m := by
  unfold iv
  generalize f.length = n
  induction n with
  | zero => rfl
  | succ j ih =>
    rw [ivS, ivS, Int.add_emod, Int.mul_emod, ih, h, ← Int.mul_emod, ← Int.add_emod]

/-! ### inverses -/
theorem bzN_bez : ∀ (f : Nat) (a b r x y s u v : Int), x * a + y * b = r → u * a + v * b = s → 0 ≤ r → 0 ≤ s → s.toNat < f → (bzN f r x y s u v).2.1 * a + (bzN f r x y s u v).2.2 * b = (Int.gcd r s : Int)
  | 0, a, b, r, x, y, s, u, v, h1, h2, hr, hs, hf => by omega
  | f + 1, a, b, r, x, y, s, u, v, h1, h2, hr, hs, hf => by
    rw [bzN]
    by_cases h0 : s = 0
    · rw [if_pos h0, h0]
      simp only [Int.gcd_zero_right]
      rw [h1]; omega
    · rw [if_neg h0]
      have hm : r - r / s * s = r % s := by have := Int.mul_ediv_add_emod r s; rw [Int.mul_comm]; omega
      have m0 := Int.emod_nonneg r h0
      have m1 := Int.emod_lt_of_pos r (show 0 < s by omega)
      have e : (x - r / s * u) * a + (y - r / s * v) * b = r - r / s * s := by
        rw [← h1, ← h2]
        generalize (x * a + y * b) / (u * a + v * b) = q
        grind
      have ih := bzN_bez f a b s u v (r - r / s * s) (x - r / s * u) (y - r / s * v) h2 e hs (by omega) (by omega)
      rw [ih, hm]
      congr 1
      have : r % s = r.tmod s := (Int.tmod_eq_emod_of_nonneg hr).symm
      rw [this]
      simp only [Int.gcd, Int.natAbs_tmod]
      rw [Nat.gcd_comm r.natAbs, Nat.gcd_rec s.natAbs r.natAbs, Nat.gcd_comm]
theorem inv_gen {m a : Int} (hm : 2 ≤ m) (ha : 0 ≤ a) (hg : Int.gcd a m = 1) : invV m a * a % m = 1 := by
  have h := bzN_bez (m.toNat + 1) a m a 1 0 m 0 1 (by omega) (by omega) ha (by omega) (by omega)
  rw [hg] at h
  have e : bezX a m * a + bezY a m * m = 1 := h
  unfold invV
  rw [Int.mul_emod, Int.emod_emod_of_dvd _ (Int.dvd_refl m), ← Int.mul_emod]
  have : bezX a m * a = 1 + m * (-bezY a m) := by grind
  rw [this, Int.add_mul_emod_self_left]
  exact Int.emod_eq_of_lt (by omega) (by omega)
theorem gcd_unit {p a : Int} {n : Nat} (hp : primeB p = true) (ha : 0 ≤ a) (hu : a % p ≠ 0) : Int.gcd a (p ^ n) = 1 := by
  have h2 := (primeB_iff.1 hp).1
  obtain ⟨P, rfl⟩ := Int.eq_ofNat_of_zero_le (show 0 ≤ p by omega)
  obtain ⟨A, rfl⟩ := Int.eq_ofNat_of_zero_le ha
  have h3 : Nat.Coprime P A := prime_coprime hp (fun e => hu (by omega))
  have h4 : Nat.Coprime A (P ^ n) := h3.symm.pow_right n
  have e : ((P : Int) ^ n) = ((P ^ n : Nat) : Int) := by simp
  rw [e]
  exact h4

/-! ### Newton's step -/
def nwt (m : Int) (f : List Int) (x : Int) : Int := (x - valM m f x * invV m (valM m (derL f) x)) % m
theorem nwt_bd {m : Int} (hm : 1 ≤ m) (f : List Int) (x : Int) : 0 ≤ nwt m f x ∧ nwt m f x < m := emod_in _ hm
theorem nwt_fix {m : Int} {f : List Int} {x : Int} (h : valM m f x = 0) (hx : 0 ≤ x ∧ x < m) : nwt m f x = x := by
  rw [nwt, h, Int.zero_mul, Int.sub_zero]; exact Int.emod_eq_of_lt hx.1 hx.2
theorem dvd_of_modP {d m x y : Int} (hd : d ∣ m) (h : x % m = y % m) (hy : d ∣ y) : d ∣ x := by
  have h1 : m ∣ x - y := Int.dvd_of_emod_eq_zero (by rw [Int.sub_emod, h, Int.sub_self]; rfl)
  have h2 := Int.dvd_add (Int.dvd_trans hd h1) hy
  have : x - y + y = x := by omega
  rwa [this] at h2
/-- One step doubles the digits: d divides the value and the modulus; q divides the modulus and d * d. -/
theorem nwt_conv {m d q : Int} {f : List Int} {x : Int} (hm : 2 ≤ m) (hg : Int.gcd (valM m (derL f) x) m = 1) (hd : d ∣ iv f x) (hdm : d ∣ m) (hqm : q ∣ m) (hqd : q ∣ d * d) : q ∣ iv f (nwt m f x) ∧ d ∣ nwt m f x - x := by
  have hs := valM_bd (show 1 ≤ m by omega) (derL f) x
  have hi := inv_gen hm hs.1 hg
  have hv := valM_eq m f x
  have hsv := valM_eq m (derL f) x
  generalize hV : valM m f x = v at *
  generalize hS : valM m (derL f) x = s at *
  generalize hI : invV m s = i at *
  have hN : nwt m f x = (x - v * i) % m := by rw [nwt, hV, hS, hI]
  obtain ⟨k1, e1⟩ : ∃ k, v = iv f x + m * k := ⟨-(iv f x / m), by have := Int.mul_ediv_add_emod (iv f x) m; grind⟩
  obtain ⟨k2, e2⟩ : ∃ k, s = iv (derL f) x + m * k := ⟨-(iv (derL f) x / m), by have := Int.mul_ediv_add_emod (iv (derL f) x) m; grind⟩
  obtain ⟨k3, e3⟩ : ∃ k, i * s = 1 + m * k := ⟨i * s / m, by have := Int.mul_ediv_add_emod (i * s) m; grind⟩
  obtain ⟨k4, e4⟩ : ∃ k, nwt m f x = x - v * i + m * k := ⟨-((x - v * i) / m), by have := Int.mul_ediv_add_emod (x - v * i) m; grind⟩
  obtain ⟨a, ea⟩ := hd
  obtain ⟨b, eb⟩ := hdm
  have hdv : v = d * (a + b * k1) := by rw [e1, ea]; grind
  obtain ⟨g, hgt⟩ := iv_taylor f x (-(v * i))
  have hc : iv f (nwt m f x) % m = iv f (x + -(v * i)) % m := iv_congr m f (by rw [e4, Int.add_mul_emod_self_left]; congr 1)
  refine ⟨dvd_of_modP hqm hc ?_, ?_⟩
  · rw [hgt]
    obtain ⟨c, ec⟩ := hqm
    obtain ⟨t, et⟩ := hqd
    -- iv f x - v i D + v v i i g
    refine ⟨-(c * k1) - c * v * k3 + c * v * i * k2 + t * (a + b * k1) * (a + b * k1) * i * i * g, ?_⟩
    have hF : iv f x = v - m * k1 := by omega
    have hD : iv (derL f) x = s - m * k2 := by omega
    rw [hF, hD]
    have h1 : v * i * s = v * (1 + m * k3) := by rw [← e3]; grind
    have h2 : v * v = q * t * ((a + b * k1) * (a + b * k1)) := by rw [← et, hdv]; grind
    have h3 : -(v * i) * -(v * i) * g = v * v * (i * i * g) := by grind
    rw [h3, h2]
    have h4 : -(v * i) * (s - m * k2) = -(v * (1 + m * k3)) + v * i * m * k2 := by rw [← h1]; grind
    rw [h4, ec]
    grind
  · rw [e4]
    refine ⟨-((a + b * k1) * i) + b * k4, ?_⟩
    rw [hdv, eb]
    grind

end Go.Proofs.Ytdkppikbneijaaa
