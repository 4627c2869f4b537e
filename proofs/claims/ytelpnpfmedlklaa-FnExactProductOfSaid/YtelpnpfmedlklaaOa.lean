/- Polynomials as lists of numbers: cutting zeros off, remainders, products, quotients. -/
import Derived.Test.YtelpnpfmedlklaaS
namespace Go.Proofs.Ytelpnpfmedlklaa
open Go.RowKit
set_option linter.unusedVariables false
set_option linter.unusedSimpArgs false

/-- How many of the first n numbers stay when zeros at the end are cut off. -/
def trimN (f : List Int) : Nat → Nat
  | 0 => 0
  | n + 1 => if el f n = 0 then trimN f n else n + 1
def trimL (f : List Int) : List Int := f.take (trimN f f.length)
theorem trimN_le (f : List Int) : ∀ n, trimN f n ≤ n
  | 0 => Nat.le_refl _
  | n + 1 => by rw [trimN]; split; have := trimN_le f n; omega; omega
theorem trimN_zero {f : List Int} {n : Nat} (h : el f n = 0) : trimN f (n + 1) = trimN f n := by rw [trimN, if_pos h]
theorem trimN_stop {f : List Int} {n : Nat} (h : el f n ≠ 0) : trimN f (n + 1) = n + 1 := by rw [trimN, if_neg h]
theorem trimL_len (f : List Int) : (trimL f).length = trimN f f.length := by
  rw [trimL, List.length_take]; have := trimN_le f f.length; omega
theorem trimL_le (f : List Int) : (trimL f).length ≤ f.length := by rw [trimL_len]; exact trimN_le _ _
theorem trimN_last (f : List Int) : ∀ n, trimN f n = 0 ∨ el f (trimN f n - 1) ≠ 0
  | 0 => .inl rfl
  | n + 1 => by
    rw [trimN]
    split
    · exact trimN_last f n
    · right; simpa using by assumption
theorem trimL_last (f : List Int) : trimL f = [] ∨ el (trimL f) ((trimL f).length - 1) ≠ 0 := by
  rcases trimN_last f f.length with h | h
  · left; rw [trimL, h]; rfl
  · by_cases h0 : trimN f f.length = 0
    · left; rw [trimL, h0]; rfl
    · right
      rw [trimL_len, trimL, el_take (by omega)]
      exact h
theorem trimL_all {P : Int → Prop} {f : List Int} (h : ∀ x ∈ f, P x) : ∀ x ∈ trimL f, P x := fun x hx => h x (List.mem_of_mem_take hx)
theorem el_bd {f : List Int} {P : Int → Prop} (h : ∀ x ∈ f, P x) {k : Nat} (hk : k < f.length) : P (el f k) := h _ (el_mem hk)

/-- Remainders by m. -/
def redL (m : Int) (f : List Int) : List Int := trimL (f.map (· % m))
theorem redL_len (m : Int) (f : List Int) : (redL m f).length ≤ f.length := by
  have := trimL_le (f.map (· % m))
  simpa [redL] using this
theorem redL_bd {m : Int} (hm : 1 ≤ m) (f : List Int) : ∀ x ∈ redL m f, 0 ≤ x ∧ x < m := by
  apply trimL_all
  intro x hx
  obtain ⟨y, _, rfl⟩ := List.mem_map.1 hx
  exact ⟨Int.emod_nonneg _ (by omega), Int.emod_lt_of_pos _ (by omega)⟩

/-- A polynomial that the program takes. -/
def polyB (f : List Int) : Bool := decide (f.length ≤ 9) && f.all (fun c => inB c (-1000000) 1000000) && (decide (f.length = 0) || el f (f.length - 1) != 0)
/-- One by a prime. -/
def modlB (p : Int) (f : List Int) : Bool := smallB p && decide (f.length ≤ 9) && f.all (fun c => inB c 0 (p - 1)) && (decide (f.length = 0) || el f (f.length - 1) != 0)
theorem polyB_bd {f : List Int} (h : polyB f = true) : f.length ≤ 9 ∧ (∀ x ∈ f, -1000000 ≤ x ∧ x ≤ 1000000) ∧ (f.length = 0 ∨ el f (f.length - 1) ≠ 0) := by
  simp only [polyB, Bool.and_eq_true, Bool.or_eq_true, decide_eq_true_eq, List.all_eq_true, bne_iff_ne] at h
  exact ⟨h.1.1, fun x hx => inB_iff.1 (h.1.2 x hx), h.2⟩
theorem modlB_bd {p : Int} {f : List Int} (h : modlB p f = true) : smallB p = true ∧ f.length ≤ 9 ∧ (∀ x ∈ f, 0 ≤ x ∧ x < p) ∧ (f.length = 0 ∨ el f (f.length - 1) ≠ 0) := by
  simp only [modlB, Bool.and_eq_true, Bool.or_eq_true, decide_eq_true_eq, List.all_eq_true, bne_iff_ne] at h
  exact ⟨h.1.1.1, h.1.1.2, fun x hx => by have := inB_iff.1 (h.1.2 x hx); omega, h.2⟩

/-! ### products -/
/-- The first k terms of row i go onto the numbers o. -/
def rowP (f g : List Int) (i : Nat) (o : List Int) : Nat → List Int
  | 0 => o
  | k + 1 => (rowP f g i o k).set (i + k) (el (rowP f g i o k) (i + k) + el f i * el g k)
def prodP (f g : List Int) : Nat → List Int
  | 0 => List.replicate (f.length + g.length - 1) 0
  | i + 1 => rowP f g i (prodP f g i) g.length
def mulL (f g : List Int) : List Int := if f.length = 0 ∨ g.length = 0 then [] else trimL (prodP f g f.length)
theorem rowP_len (f g : List Int) (i : Nat) (o : List Int) : ∀ k, (rowP f g i o k).length = o.length
  | 0 => rfl
  | k + 1 => by rw [rowP, List.length_set]; exact rowP_len f g i o k
theorem prodP_len (f g : List Int) : ∀ i, (prodP f g i).length = f.length + g.length - 1
  | 0 => by simp [prodP]
  | i + 1 => by rw [prodP, rowP_len]; exact prodP_len f g i
theorem el_set {l : List Int} {k j : Nat} {x : Int} (hk : k < l.length) : el (l.set k x) j = if k = j then x else el l j := by
  simp only [el, List.getD_eq_getElem?_getD, List.getElem?_set]
  by_cases h : k = j
  · subst h; simp [hk]
  · simp [h]
theorem el_out {l : List Int} {k : Nat} (h : ¬ k < l.length) : el l k = 0 := by
  simp only [el, List.getD_eq_getElem?_getD, List.getElem?_eq_none (show l.length ≤ k by omega)]; rfl
theorem el_repl (n k : Nat) : el (List.replicate n 0) k = 0 := by
  simp only [el, List.getD_eq_getElem?_getD, List.getElem?_replicate]; split <;> rfl
/-- Numbers of a list lie in [-b, b]. -/
def Bd (b : Int) (l : List Int) : Prop := ∀ k, -b ≤ el l k ∧ el l k ≤ b
theorem Bd.of {b : Int} {l : List Int} (hb : 0 ≤ b) (h : ∀ x ∈ l, -b ≤ x ∧ x ≤ b) : Bd b l := by
  intro k
  by_cases hk : k < l.length
  · exact h _ (el_mem hk)
  · rw [el_out hk]; omega
theorem Bd.mono {b c : Int} {l : List Int} (h : Bd b l) (hc : b ≤ c) : Bd c l := fun k => by have := h k; omega
theorem abs_mul_le {x y a b : Int} (hx : -a ≤ x ∧ x ≤ a) (hy : -b ≤ y ∧ y ≤ b) : -(a * b) ≤ x * y ∧ x * y ≤ a * b := by
  have h1 : x.natAbs ≤ a.natAbs := by omega
  have h2 : y.natAbs ≤ b.natAbs := by omega
  have h3 := Nat.mul_le_mul h1 h2
  rw [← Int.natAbs_mul, ← Int.natAbs_mul] at h3
  have h4 : 0 ≤ a * b := Int.mul_nonneg (by omega) (by omega)
  omega
theorem rowP_bd {f g : List Int} {i : Nat} {o : List Int} {a b c : Int} (hf : Bd a f) (hg : Bd b g) (ha : 0 ≤ a) (hb : 0 ≤ b) (hc : 0 ≤ c) (ho : Bd c o) : ∀ k : Nat, Bd (c + (k : Int) * (a * b)) (rowP f g i o k)
  | 0 => by simpa [rowP] using ho
  | k + 1 => by
    have ih := rowP_bd (i := i) hf hg ha hb hc ho k
    have hab : 0 ≤ a * b := Int.mul_nonneg ha hb
    have e : c + ((k + 1 : Nat) : Int) * (a * b) = c + k * (a * b) + a * b := by rw [Int.natCast_add, Int.add_mul]; omega
    rw [e]
    intro j
    rw [rowP]
    have hm := abs_mul_le (hf i) (hg k)
    by_cases hl : i + k < (rowP f g i o k).length
    · rw [el_set hl]
      split
      · have := ih (i + k); omega
      · have := ih j; omega
    · rw [List.set_eq_of_length_le (by omega)]
      have := ih j; omega
theorem prodP_bd {f g : List Int} {a b : Int} (hf : Bd a f) (hg : Bd b g) (ha : 0 ≤ a) (hb : 0 ≤ b) : ∀ i : Nat, Bd ((i : Int) * (g.length * (a * b))) (prodP f g i)
  | 0 => by intro k; rw [prodP, el_repl]; simp
  | i + 1 => by
    have ih := prodP_bd hf hg ha hb i
    have hab : 0 ≤ a * b := Int.mul_nonneg ha hb
    have h0 : 0 ≤ (i : Int) * (g.length * (a * b)) := Int.mul_nonneg (by omega) (Int.mul_nonneg (by omega) hab)
    have h1 := rowP_bd (i := i) hf hg ha hb h0 ih g.length
    have e : ((i + 1 : Nat) : Int) * (g.length * (a * b)) = i * (g.length * (a * b)) + g.length * (a * b) := by rw [Int.natCast_add, Int.add_mul]; omega
    rw [e]
    exact h1
/-- What the walk of a product needs. -/
theorem prod_num {f g : List Int} {a b : Int} (hf : Bd a f) (hg : Bd b g) (ha : 0 ≤ a ∧ a ≤ 1000000) (hb : 0 ≤ b ∧ b ≤ 1000000) (h1 : f.length ≤ 1000) (h2 : g.length ≤ 1000) {i : Nat} (hi : i < f.length) {k : Nat} (hk : k ≤ g.length) :
    Bd 2000000000000000000 (rowP f g i (prodP f g i) k) := by
  have hab : 0 ≤ a * b := Int.mul_nonneg ha.1 hb.1
  have hab2 : a * b ≤ 1000000 * 1000000 := Int.mul_le_mul ha.2 hb.2 hb.1 (by omega)
  have h3 : (g.length : Int) * (a * b) ≤ 1000 * (1000000 * 1000000) := Int.mul_le_mul (by omega) hab2 hab (by omega)
  have h30 : 0 ≤ (g.length : Int) * (a * b) := Int.mul_nonneg (by omega) hab
  have h4 : (i : Int) * (g.length * (a * b)) ≤ 1000 * (1000 * (1000000 * 1000000)) := Int.mul_le_mul (by omega) h3 h30 (by omega)
  have h5 : (k : Int) * (a * b) ≤ 1000 * (1000000 * 1000000) := Int.mul_le_mul (by omega) hab2 hab (by omega)
  have h0 : 0 ≤ (i : Int) * (g.length * (a * b)) := Int.mul_nonneg (by omega) h30
  exact (rowP_bd (i := i) hf hg ha.1 hb.1 h0 (prodP_bd hf hg ha.1 hb.1 i) k).mono (by omega)

/-! ### quotients -/
/-- c times the first k terms of g go off the numbers from i on. -/
def subR (p c : Int) (g : List Int) (i : Nat) (r : List Int) : Nat → List Int
  | 0 => r
  | k + 1 => (subR p c g i r k).set (i + k) ((el (subR p c g i r k) (i + k) - c * el g k) % p)
/-- The quotient and the rest behind j of n steps; v: the inverse of the last coefficient. -/
def divS (p v : Int) (f g : List Int) (n : Nat) : Nat → List Int × List Int
  | 0 => (List.replicate n 0, f)
  | j + 1 => ((divS p v f g n j).1.set (n - 1 - j) (el (divS p v f g n j).2 (n - 1 - j + g.length - 1) * v % p),
      subR p (el (divS p v f g n j).2 (n - 1 - j + g.length - 1) * v % p) g (n - 1 - j) (divS p v f g n j).2 g.length)
def divN (f g : List Int) : Nat := f.length + 1 - g.length
def quoL (p v : Int) (f g : List Int) : List Int := trimL (divS p v f g (divN f g) (divN f g)).1
def remL (p v : Int) (f g : List Int) : List Int := trimL (divS p v f g (divN f g) (divN f g)).2
theorem subR_len (p c : Int) (g : List Int) (i : Nat) (r : List Int) : ∀ k, (subR p c g i r k).length = r.length
  | 0 => rfl
  | k + 1 => by rw [subR, List.length_set]; exact subR_len p c g i r k
theorem divS_len (p v : Int) (f g : List Int) (n : Nat) : ∀ j, (divS p v f g n j).1.length = n ∧ (divS p v f g n j).2.length = f.length
  | 0 => by simp [divS]
  | j + 1 => by
    have ih := divS_len p v f g n j
    rw [divS]
    exact ⟨by rw [List.length_set]; exact ih.1, by rw [subR_len]; exact ih.2⟩
/-- All numbers of a list lie in [0, p). -/
def In (p : Int) (l : List Int) : Prop := ∀ k, 0 ≤ el l k ∧ el l k < p
theorem In.of {p : Int} {l : List Int} (hp : 1 ≤ p) (h : ∀ x ∈ l, 0 ≤ x ∧ x < p) : In p l := by
  intro k
  by_cases hk : k < l.length
  · exact h _ (el_mem hk)
  · rw [el_out hk]; omega
theorem In.all {p : Int} {l : List Int} (h : In p l) : ∀ x ∈ l, 0 ≤ x ∧ x < p := by
  intro x hx
  obtain ⟨k, _, rfl⟩ := mem_el hx
  exact h k
theorem In.set {p : Int} {l : List Int} (h : In p l) (k : Nat) {x : Int} (hx : 0 ≤ x ∧ x < p) : In p (l.set k x) := by
  intro j
  by_cases hk : k < l.length
  · rw [el_set hk]; split
    · exact hx
    · exact h j
  · rw [List.set_eq_of_length_le (by omega)]; exact h j
theorem In.trim {p : Int} {l : List Int} (hp : 1 ≤ p) (h : In p l) : In p (trimL l) := In.of hp (trimL_all h.all)
theorem In.bd {p : Int} {l : List Int} (h : In p l) (hp : p ≤ 1000000) : Bd p l := fun k => by have := h k; omega
theorem emod_in (x : Int) {p : Int} (hp : 1 ≤ p) : 0 ≤ x % p ∧ x % p < p := ⟨Int.emod_nonneg _ (by omega), Int.emod_lt_of_pos _ (by omega)⟩
theorem subR_in {p c : Int} {g : List Int} {i : Nat} {r : List Int} (hp : 1 ≤ p) (h : In p r) : ∀ k, In p (subR p c g i r k)
  | 0 => h
  | k + 1 => (subR_in hp h k).set _ (emod_in _ hp)
theorem divS_in {p v : Int} {f g : List Int} {n : Nat} (hp : 1 ≤ p) (h : In p f) : ∀ j, In p (divS p v f g n j).1 ∧ In p (divS p v f g n j).2
  | 0 => ⟨fun k => by rw [divS, el_repl]; omega, h⟩
  | j + 1 => by
    have ih := divS_in (g := g) (v := v) (n := n) hp h j
    rw [divS]
    exact ⟨ih.1.set _ (emod_in _ hp), subR_in hp ih.2 _⟩
theorem remL_in {p v : Int} {f : List Int} (g : List Int) (hp : 1 ≤ p) (h : In p f) : In p (remL p v f g) := (divS_in hp h _).2.trim hp
theorem quoL_in {p v : Int} {f : List Int} (g : List Int) (hp : 1 ≤ p) (h : In p f) : In p (quoL p v f g) := (divS_in hp h _).1.trim hp
theorem redL_in {p : Int} (hp : 1 ≤ p) (f : List Int) : In p (redL p f) := In.of hp (redL_bd hp f)

end Go.Proofs.Ytelpnpfmedlklaa
