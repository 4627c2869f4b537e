/- The balls of roots by a prime power: plain. -/
import Derived.Test.YtdkppikbneijaaaOv
namespace Go.Proofs.Ytdkppikbneijaaa
set_option linter.unusedVariables false
set_option linter.unusedSimpArgs false

/-! ### f at a + p z -/
def compR (a p : Int) : List Int → List Int
  | [] => []
  | c :: f => addR [c] (addR (smul a (compR a p f)) (0 :: smul p (compR a p f)))
theorem ev_comp (a p : Int) : ∀ (f : List Int) (z : Int), ev (compR a p f) z = ev f (a + p * z)
  | [], z => rfl
  | c :: f, z => by
    rw [compR, ev_add, ev_add, ev_smul]
    simp only [ev, ev_smul, ev_comp a p f z]
    grind
theorem comp_el0 (a p : Int) : ∀ f : List Int, el (compR a p f) 0 = ev f a
  | [] => rfl
  | c :: f => by
    rw [compR, el_add, el_add, el_smul, comp_el0 a p f, el_cons0, el_cons0, ev]
    omega
theorem comp_dvd (a p : Int) : ∀ (f : List Int) (i : Nat), p ∣ el (compR a p f) (i + 1)
  | [], i => by rw [compR, el_nil']; exact Int.dvd_zero p
  | c :: f, i => by
    rw [compR, el_add, el_add, el_smul, el_consS, el_consS, el_smul, el_nil']
    have h1 := comp_dvd a p f i
    obtain ⟨q, hq⟩ := h1
    rw [hq]
    exact ⟨a * q + el (compR a p f) i, by grind⟩
/-! ### lists that are the same by m, number by number -/
theorem cg_of_el {m : Int} {f g : List Int} (h : ∀ k, el f k % m = el g k % m) : Cg m (ev f) (ev g) := by
  let N := f.length + g.length
  let q := (List.range N).map fun k => (el f k - el g k) / m
  have hq : ∀ k, el f k = el (addR g (smul m q)) k := by
    intro k
    rw [el_add, el_smul]
    have hd : m ∣ el f k - el g k := Int.dvd_of_emod_eq_zero (by rw [Int.sub_emod, h k]; simp)
    by_cases hk : k < N
    · have : el q k = (el f k - el g k) / m := by simp [q, el, hk]
      rw [this, Int.mul_ediv_cancel' hd]
      omega
    · rw [el_out (l := f) (by omega), el_out (l := g) (by omega), el_out (l := q) (by simp [q]; omega)]
      simp
  exact ⟨q, fun x => by rw [ev_el hq x, ev_add, ev_smul]⟩
/-- One step of Horner's rule at a + p z, by m. -/
def subStep (m a p c : Int) (out : List Int) : List Int := (List.range (out.length + 1)).map fun k => if k = 0 then (el out 0 * a % m + c % m) % m else (el out k * a % m + el out (k - 1) * p) % m
def subL (m a p : Int) : List Int → List Int
  | [] => []
  | c :: f => subStep m a p c (subL m a p f)
theorem subStep_cg (m a p c : Int) (out : List Int) : Cg m (ev (subStep m a p c out)) (ev (addR [c] (addR (smul a out) (0 :: smul p out)))) := by
  refine cg_of_el fun k => ?_
  rw [el_add, el_add, el_smul]
  cases k with
  | zero =>
    rw [el_cons0, el_cons0]
    have : el (subStep m a p c out) 0 = (el out 0 * a % m + c % m) % m := by simp [subStep, el]
    rw [this, Int.emod_emod_of_dvd _ (Int.dvd_refl m), ← Int.add_emod]
    congr 1
    rw [Int.mul_comm]
    omega
  | succ k =>
    rw [el_consS, el_consS, el_nil', el_smul]
    by_cases hk : k + 1 < out.length + 1
    · have : el (subStep m a p c out) (k + 1) = (el out (k + 1) * a % m + el out k * p) % m := by simp [subStep, el, hk]
      rw [this, Int.emod_emod_of_dvd _ (Int.dvd_refl m), Int.emod_add_emod]
      congr 1
      rw [Int.mul_comm (el out (k + 1)), Int.mul_comm (el out k)]
      omega
    · rw [el_out (l := subStep m a p c out) (by simp [subStep]; omega), el_out (l := out) (k := k + 1) (by omega), el_out (l := out) (k := k) (by omega)]
      simp
theorem subL_cg (m a p : Int) : ∀ f : List Int, Cg m (ev (subL m a p f)) (ev (compR a p f))
  | [] => Cg.of fun _ => rfl
  | c :: f => by
    refine (subStep_cg m a p c (subL m a p f)).trans ?_
    obtain ⟨h, e⟩ := subL_cg m a p f
    refine ⟨mulR [a, p] h, fun x => ?_⟩
    rw [compR, ev_add, ev_add, ev_add, ev_add, ev_smul, ev_smul, ev_mul, ev, ev, ev, ev, ev_smul, ev_smul, e x]
    simp only [ev]
    grind
/-! ### the content -/
def contL (f : List Int) : Int := f.foldl (fun d c => (Int.gcd d c : Int)) 0
theorem cont_fold : ∀ (f : List Int) (d : Int), f.foldl (fun d c => (Int.gcd d c : Int)) d ∣ d ∧ (∀ c ∈ f, f.foldl (fun d c => (Int.gcd d c : Int)) d ∣ c) ∧ (∀ q : Int, q ∣ d → (∀ c ∈ f, q ∣ c) → q ∣ f.foldl (fun d c => (Int.gcd d c : Int)) d)
  | [], d => ⟨Int.dvd_refl d, by simp, fun q h _ => h⟩
  | c :: f, d => by
    obtain ⟨h1, h2, h3⟩ := cont_fold f (Int.gcd d c : Int)
    rw [List.foldl_cons]
    refine ⟨Int.dvd_trans h1 (Int.gcd_dvd_left ..), ?_, fun q hq hc => h3 q (Int.dvd_coe_gcd hq (hc c (List.mem_cons_self))) (fun x hx => hc x (List.mem_cons_of_mem _ hx))⟩
    intro x hx
    rcases List.mem_cons.1 hx with rfl | hx
    · exact Int.dvd_trans h1 (Int.gcd_dvd_right ..)
    · exact h2 x hx
theorem cont_el (f : List Int) (i : Nat) : contL f ∣ el f i := by
  by_cases h : i < f.length
  · exact (cont_fold f 0).2.1 _ (el_mem h)
  · rw [el_out h]; exact Int.dvd_zero _
theorem cont_of {f : List Int} {q : Int} (h : ∀ i, q ∣ el f i) : q ∣ contL f := (cont_fold f 0).2.2 q (Int.dvd_zero q) fun c hc => by
  obtain ⟨k, _, rfl⟩ := mem_el hc
  exact h k
theorem ev_dvd {q : Int} : ∀ {f : List Int}, (∀ i, q ∣ el f i) → ∀ y, q ∣ ev f y
  | [], _, y => Int.dvd_zero q
  | c :: f, h, y => by
    rw [ev]
    have h1 : q ∣ ev f y := ev_dvd (fun i => by have := h (i + 1); rwa [el_consS] at this) y
    exact Int.dvd_add (h 0) (Int.dvd_mul_of_dvd_right h1)
theorem vp_dvd {p n : Int} (hp : 2 ≤ p) (hn : n ≠ 0) (j : Nat) : p ^ j ∣ n ↔ j ≤ vp p n := by
  have hs := vp_spec hp hn
  constructor
  · intro h
    apply Decidable.byContradiction
    intro hh
    have h2 : p ^ (vp p n + 1) ∣ n := Int.dvd_trans (pow_dvd' p (by omega)) h
    obtain ⟨q, hq⟩ := h2
    have e := hs.1
    have hpp := pow_pos' (show 1 ≤ p by omega) (vp p n)
    have h4 := hs.2.1
    generalize vp p n = v at *
    have : n / p ^ v = p * q := by
      rw [hq, Int.pow_succ, Int.mul_assoc, Int.mul_ediv_cancel_left _ (by omega)]
    rw [this] at h4
    simp at h4
  · intro h
    exact Int.dvd_trans (pow_dvd' p h) ⟨n / p ^ vp p n, by rw [Int.mul_comm]; exact hs.1⟩

end Go.Proofs.Ytdkppikbneijaaa
