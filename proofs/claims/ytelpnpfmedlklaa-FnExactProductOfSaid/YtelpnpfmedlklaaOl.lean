/- Contracts: common divisors, derivatives, powers by a polynomial. -/
import Derived.Test.YtelpnpfmedlklaaOk
namespace Go.Proofs.Ytelpnpfmedlklaa
open Go.RowKit
set_option linter.unusedVariables false
set_option linter.unusedSimpArgs false

/-! ### the remainder is shorter than the divisor -/
theorem subR_el {p c : Int} {g : List Int} {i : Nat} {r : List Int} : ∀ k, i + k ≤ r.length → ∀ x, el (subR p c g i r k) x = if i ≤ x ∧ x < i + k then (el r x - c * el g (x - i)) % p else el r x
  | 0, h, x => by rw [subR, if_neg (by omega)]
  | k + 1, h, x => by
    have ih := subR_el (p := p) (c := c) (g := g) (i := i) (r := r) k (by omega)
    rw [subR, el_set (by rw [subR_len]; omega)]
    by_cases hx : i + k = x
    · subst hx
      rw [if_pos rfl, if_pos (by omega), ih (i + k), if_neg (by omega), show i + k - i = k by omega]
    · rw [if_neg hx, ih x]
      by_cases h1 : i ≤ x ∧ x < i + k
      · rw [if_pos h1, if_pos (by omega)]
      · rw [if_neg h1, if_neg (by omega)]
theorem inv_all : ∀ P : Fin 98, smallB (P.val : Int) = true → ∀ A : Fin 98, 1 ≤ A.val → A.val < P.val → (invV P.val A.val * A.val) % (P.val : Int) = 1 := by decide +kernel
theorem inv_ok {p a : Int} (hs : smallB p = true) (ha : 0 ≤ a ∧ a < p) (h0 : a ≠ 0) : invV p a * a % p = 1 := by
  have hp := small_bd hs
  have e : ((p.toNat : Nat) : Int) = p := by omega
  have e2 : ((a.toNat : Nat) : Int) = a := by omega
  have h := inv_all ⟨p.toNat, by omega⟩
  simp only [e] at h
  have h2 := h hs ⟨a.toNat, by omega⟩ (by show 1 ≤ a.toNat; omega) (by show a.toNat < p.toNat; omega)
  simp only [e2] at h2
  exact h2
theorem cancel {p r v a : Int} (h : v * a % p = 1) : (r - (r * v % p) * a) % p = 0 := by
  have h1 : (r * v % p) * a % p = r % p := by
    rw [Int.mul_emod, Int.emod_emod_of_dvd _ (Int.dvd_refl p), ← Int.mul_emod, Int.mul_assoc, Int.mul_emod, h]
    by_cases hp : p = 1
    · subst hp; omega
    · rw [Int.mul_one, Int.emod_emod_of_dvd _ (Int.dvd_refl p)]
  rw [Int.sub_emod, h1, Int.sub_self]
  rfl
theorem divS_zero {p v : Int} {f g : List Int} {N m : Nat} (hm : g.length = m + 1) (hN : f.length = m + N) (hv : v * el g m % p = 1) : ∀ j, j ≤ N → ∀ x, N - j + m ≤ x → el (divS p v f g N j).2 x = 0
  | 0, _, x, hx => by rw [divS]; show el f x = 0; exact el_out (by omega)
  | j + 1, hj, x, hx => by
    have ih := divS_zero hm hN hv j (by omega)
    have hl := (divS_len p v f g N j).2
    obtain ⟨_, e2⟩ := divS_step (p := p) (v := v) (f := f) (g := g) (N := N) (i := N - 1 - j) (j := j) (m := m) (by omega) hm
    rw [e2, subR_el (m + 1) (by omega)]
    by_cases h1 : N - 1 - j ≤ x ∧ x < N - 1 - j + (m + 1)
    · rw [if_pos h1]
      have hx2 : x = N - 1 - j + m := by omega
      subst hx2
      rw [show N - 1 - j + m - (N - 1 - j) = m by omega]
      exact cancel hv
    · rw [if_neg h1]
      exact ih x (by omega)
theorem trimN_zeros {f : List Int} {m : Nat} : ∀ n, (∀ k, m ≤ k → k < n → el f k = 0) → trimN f n ≤ m
  | 0, _ => by simp [trimN]
  | n + 1, h => by
    by_cases hn : m ≤ n
    · rw [trimN, if_pos (h n hn (by omega))]
      exact trimN_zeros n (fun k h1 h2 => h k h1 (by omega))
    · have := trimN_le f (n + 1); omega
/-- The last number is not 0, or there is none. -/
def Tidy (f : List Int) : Prop := f.length = 0 ∨ el f (f.length - 1) ≠ 0
theorem trimL_tidy (f : List Int) : Tidy (trimL f) := by
  rcases trimL_last f with h | h
  · left; rw [h]; rfl
  · right; exact h
theorem rem_lt {p : Int} {f g : List Int} (hs : smallB p = true) (hg : In p g) (hl : 0 < g.length) (ht : Tidy g) : (remR p f g).length < g.length := by
  obtain ⟨m, hm⟩ : ∃ m, g.length = m + 1 := ⟨g.length - 1, by omega⟩
  unfold remR remL
  by_cases hlt : f.length < g.length
  · have := rem_len p (invV p (el g (g.length - 1))) f g
    unfold remL at this
    omega
  · obtain ⟨N, hN⟩ : ∃ N, f.length = m + N := ⟨f.length - m, by omega⟩
    have hd : divN f g = N := by rw [divN, hN, hm]; omega
    rw [hd, trimL_len, (divS_len _ _ _ _ _ _).2, show g.length - 1 = m by omega]
    have h0 : el g m ≠ 0 := by
      rcases ht with h | h
      · omega
      · rw [show m = g.length - 1 by omega]; exact h
    have hv := inv_ok hs (hg m) h0
    have hz := divS_zero (p := p) (v := invV p (el g m)) (f := f) hm hN hv N (Nat.le_refl _)
    have := trimN_zeros (f := (divS p (invV p (el g m)) f g N N).2) (m := m) f.length (fun k h1 _ => hz k (by omega))
    omega
theorem modl_tidy {p : Int} {f : List Int} (h : modlB p f = true) : Tidy f := (modlB_bd h).2.2.2
theorem remR_tidy (p : Int) (f g : List Int) : Tidy (remR p f g) := trimL_tidy _
theorem remR_in {p : Int} {f : List Int} (g : List Int) (hp : 1 ≤ p) (h : In p f) : In p (remR p f g) := remL_in g hp h

/-! ### common divisors -/
def comG (p : Int) : Nat → List Int → List Int → List Int
  | 0, f, _ => f
  | n + 1, f, g => if g.length = 0 then f else comG p n g (remR p f g)
def monL (p : Int) (f : List Int) : List Int := if f.length = 0 then [] else timL p f [invV p (el f (f.length - 1))]
def comL (p : Int) (f g : List Int) : List Int := monL p (comG p (g.length + 1) f g)
theorem reads_one (w : World) (x : Int) : Reads (w.alloc (.cells #[.int .i64 x] 2)) (.slice (some ⟨w.heap.size, 0, none⟩) 1 1) [x] := by
  refine ⟨by simp, _, 1, rfl, by simp, by simp [maxLen], fun _ => ⟨_, _, rfl, by simp, fun i hi => ?_⟩⟩
  have : i = 0 := by simp at hi; omega
  subst this
  simp [el]
theorem in_one {p x : Int} (h : 0 ≤ x ∧ x < p) : In p [x] := In.of (by omega) (by intro y hy; simp at hy; rw [hy]; exact h)
theorem el_len {f : List Int} {n : Nat} (h : f.length = n) : el f (f.length - 1) = el f (n - 1) := by rw [h]

end Go.Proofs.Ytelpnpfmedlklaa
