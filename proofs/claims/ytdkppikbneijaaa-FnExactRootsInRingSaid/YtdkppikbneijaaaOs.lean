/- Polynomials by their values: products, quotients and remainders by a prime: plain. -/
import Derived.Test.YtdkppikbneijaaaOm
import Derived.Test.YtdkppikbneijaaaI
namespace Go.Proofs.Ytdkppikbneijaaa
set_option linter.unusedVariables false
set_option linter.unusedSimpArgs false

/-- The value at x. -/
def ev : List Int → Int → Int
  | [], _ => 0
  | a :: f, x => a + x * ev f x
def smT (f : List Int) (x : Int) : Nat → Int
  | 0 => 0
  | n + 1 => smT f x n + el f n * x ^ n
theorem el_cons0 (a : Int) (f : List Int) : el (a :: f) 0 = a := rfl
theorem el_consS (a : Int) (f : List Int) (k : Nat) : el (a :: f) (k + 1) = el f k := by simp [el]
theorem el_nil' (k : Nat) : el [] k = 0 := by simp [el]
theorem smT_cons (a : Int) (f : List Int) (x : Int) : ∀ n, smT (a :: f) x (n + 1) = a + x * smT f x n
  | 0 => by simp [smT, el_cons0]
  | n + 1 => by
    rw [smT, smT_cons a f x n, el_consS, smT, Int.pow_succ]
    grind
theorem ev_sum : ∀ (f : List Int) (x : Int), ev f x = smT f x f.length
  | [], x => rfl
  | a :: f, x => by rw [List.length_cons, smT_cons, ev, ev_sum f x]
theorem smT_out {f : List Int} {x : Int} {n : Nat} (h : f.length ≤ n) : smT f x n = smT f x f.length := by
  induction n with
  | zero => have : f.length = 0 := by omega
            rw [this]
  | succ n ih =>
    by_cases h2 : f.length = n + 1
    · rw [h2]
    · rw [smT, ih (by omega), el_out (by omega)]; simp
theorem ev_upto {f : List Int} {x : Int} {n : Nat} (h : f.length ≤ n) : ev f x = smT f x n := by rw [smT_out h, ev_sum]
theorem smT_congr {f g : List Int} {x : Int} (h : ∀ k, el f k = el g k) : ∀ n, smT f x n = smT g x n
  | 0 => rfl
  | n + 1 => by rw [smT, smT, smT_congr h n, h n]
theorem ev_el {f g : List Int} (h : ∀ k, el f k = el g k) (x : Int) : ev f x = ev g x := by
  rw [ev_upto (f := f) (n := f.length + g.length) (by omega), ev_upto (f := g) (n := f.length + g.length) (by omega), smT_congr h]
theorem trimN_out (f : List Int) : ∀ n k, trimN f n ≤ k → k < n → el f k = 0
  | 0, k, _, h => by omega
  | n + 1, k, h1, h2 => by
    rw [trimN] at h1
    split at h1
    · by_cases hk : k = n
      · rw [hk]; assumption
      · exact trimN_out f n k h1 (by omega)
    · omega
theorem el_trim (f : List Int) (k : Nat) : el (trimL f) k = el f k := by
  by_cases h : k < trimN f f.length
  · rw [trimL, el_take h]
  · rw [el_out (by rw [trimL_len]; exact h)]
    by_cases h2 : k < f.length
    · rw [trimN_out f _ k (by omega) h2]
    · rw [el_out h2]
theorem ev_trim (f : List Int) (x : Int) : ev (trimL f) x = ev f x := ev_el (el_trim f) x
theorem ev_set : ∀ (l : List Int) (k : Nat) (y x : Int), k < l.length → ev (l.set k y) x = ev l x + (y - el l k) * x ^ k
  | [], k, y, x, h => by simp at h
  | a :: l, 0, y, x, _ => by simp [ev, el_cons0]; omega
  | a :: l, k + 1, y, x, h => by
    rw [List.set_cons_succ, ev, ev, ev_set l k y x (by simpa using h), el_consS, Int.pow_succ]
    grind
/-! ### sums and products -/
def addR : List Int → List Int → List Int
  | [], g => g
  | a :: f, [] => a :: f
  | a :: f, b :: g => (a + b) :: addR f g
def smul (c : Int) (f : List Int) : List Int := f.map (c * ·)
def mulR : List Int → List Int → List Int
  | [], _ => []
  | a :: f, g => addR (smul a g) (0 :: mulR f g)
theorem ev_add : ∀ (f g : List Int) (x : Int), ev (addR f g) x = ev f x + ev g x
  | [], g, x => by simp [addR, ev]
  | a :: f, [], x => by simp [addR, ev]
  | a :: f, b :: g, x => by rw [addR, ev, ev, ev, ev_add f g x]; grind
theorem ev_smul (c : Int) : ∀ (f : List Int) (x : Int), ev (smul c f) x = c * ev f x
  | [], x => by simp [smul, ev]
  | a :: f, x => by
    have := ev_smul c f x
    unfold smul at this ⊢
    rw [List.map_cons, ev, ev, this]; grind
theorem ev_mul : ∀ (f g : List Int) (x : Int), ev (mulR f g) x = ev f x * ev g x
  | [], g, x => by simp [mulR, ev]
  | a :: f, g, x => by rw [mulR, ev_add, ev_smul, ev, ev_mul f g x, ev]; grind
theorem el_add : ∀ (f g : List Int) (k : Nat), el (addR f g) k = el f k + el g k
  | [], g, k => by simp [addR, el_nil']
  | a :: f, [], k => by simp [addR, el_nil']
  | a :: f, b :: g, 0 => rfl
  | a :: f, b :: g, k + 1 => by rw [addR, el_consS, el_consS, el_consS, el_add f g k]
theorem el_smul (c : Int) (f : List Int) (k : Nat) : el (smul c f) k = c * el f k := by
  by_cases h : k < f.length
  · simp [smul, el, List.getD_eq_getElem?_getD, List.getElem?_eq_getElem h]
  · rw [el_out h, el_out (by simpa [smul] using h)]; simp
theorem add_len : ∀ (f g : List Int), (addR f g).length = max f.length g.length
  | [], g => by simp [addR]
  | a :: f, [] => by simp [addR]
  | a :: f, b :: g => by simp [addR, add_len f g]
theorem smul_len (c : Int) (f : List Int) : (smul c f).length = f.length := by simp [smul]
/-! ### what the values say of the numbers -/
theorem ev_zero : ∀ (f : List Int) (N : Int), (∀ x, N ≤ x → ev f x = 0) → ∀ k, el f k = 0
  | [], _, _, k => el_nil' k
  | a :: f, N, h, k => by
    have ha : a = 0 := by
      have h1 := h (max N (a.natAbs + 1)) (Int.le_max_left _ _)
      rw [ev] at h1
      have h2 : max N ((a.natAbs : Int) + 1) ∣ a := ⟨- ev f (max N (a.natAbs + 1)), by grind⟩
      have h3 : (a.natAbs : Int) + 1 ≤ max N ((a.natAbs : Int) + 1) := Int.le_max_right _ _
      apply Decidable.byContradiction
      intro hne
      have h4 := Int.natAbs_dvd_natAbs.2 h2
      have h5 := Nat.le_of_dvd (by omega) h4
      omega
    cases k with
    | zero => exact ha
    | succ k =>
      rw [el_consS]
      refine ev_zero f (max N 1) (fun x hx => ?_) k
      have h1 := h x (by omega)
      rw [ev, ha] at h1
      have : x * ev f x = 0 := by omega
      rcases Int.mul_eq_zero.1 this with h2 | h2
      · omega
      · exact h2
theorem ev_inj {f g : List Int} (h : ∀ x, ev f x = ev g x) (k : Nat) : el f k = el g k := by
  have := ev_zero (addR f (smul (-1) g)) 0 (fun x _ => by rw [ev_add, ev_smul, h x]; omega) k
  rw [el_add, el_smul] at this
  omega
/-! ### by a number p -/
def Cg (p : Int) (F G : Int → Int) : Prop := ∃ h, ∀ x, F x = G x + p * ev h x
theorem Cg.of {p : Int} {F G : Int → Int} (h : ∀ x, F x = G x) : Cg p F G := ⟨[], fun x => by rw [h x, ev]; omega⟩
theorem Cg.symm {p : Int} {F G : Int → Int} (h : Cg p F G) : Cg p G F := by
  obtain ⟨h, e⟩ := h
  exact ⟨smul (-1) h, fun x => by rw [ev_smul, e x]; grind⟩
theorem Cg.trans {p : Int} {F G H : Int → Int} (h : Cg p F G) (k : Cg p G H) : Cg p F H := by
  obtain ⟨h, e⟩ := h
  obtain ⟨k, e'⟩ := k
  exact ⟨addR h k, fun x => by rw [ev_add, e x, e' x]; grind⟩
theorem Cg.add {p : Int} {F G F' G' : Int → Int} (h : Cg p F G) (k : Cg p F' G') : Cg p (fun x => F x + F' x) (fun x => G x + G' x) := by
  obtain ⟨h, e⟩ := h
  obtain ⟨k, e'⟩ := k
  exact ⟨addR h k, fun x => by simp only [ev_add, e x, e' x]; grind⟩
theorem Cg.sub {p : Int} {F G F' G' : Int → Int} (h : Cg p F G) (k : Cg p F' G') : Cg p (fun x => F x - F' x) (fun x => G x - G' x) := by
  obtain ⟨h, e⟩ := h
  obtain ⟨k, e'⟩ := k
  exact ⟨addR h (smul (-1) k), fun x => by simp only [ev_add, ev_smul, e x, e' x]; grind⟩
theorem Cg.mul {p : Int} {F G : Int → Int} (l : List Int) (h : Cg p F G) : Cg p (fun x => ev l x * F x) (fun x => ev l x * G x) := by
  obtain ⟨h, e⟩ := h
  exact ⟨mulR l h, fun x => by simp only [ev_mul, e x]; grind⟩
theorem Cg.mulr {p : Int} {F G : Int → Int} (l : List Int) (h : Cg p F G) : Cg p (fun x => F x * ev l x) (fun x => G x * ev l x) := by
  obtain ⟨h, e⟩ := h
  exact ⟨mulR l h, fun x => by simp only [ev_mul, e x]; grind⟩
theorem Cg.el {p : Int} {f g : List Int} (h : Cg p (ev f) (ev g)) (k : Nat) : el f k % p = el g k % p := by
  obtain ⟨h, e⟩ := h
  have := ev_inj (f := f) (g := addR g (smul p h)) (fun x => by rw [ev_add, ev_smul]; exact e x) k
  rw [this, el_add, el_smul]
  simp
theorem tidy_eq {f g : List Int} (h : ∀ k, el f k = el g k) (tf : Tidy f) (tg : Tidy g) : f = g := by
  have hl : f.length = g.length := by
    apply Decidable.byContradiction
    intro hne
    rcases Nat.lt_or_gt_of_ne hne with hlt | hlt
    · rcases tg with t | t
      · omega
      · exact t (by rw [← h, el_out (by omega)])
    · rcases tf with t | t
      · omega
      · exact t (by rw [h, el_out (by omega)])
  exact el_ext hl fun k _ => h k
theorem Cg.eq {p : Int} {f g : List Int} (h : Cg p (ev f) (ev g)) (hf : In p f) (hg : In p g) (tf : Tidy f) (tg : Tidy g) : f = g := by
  refine tidy_eq (fun k => ?_) tf tg
  have := h.el k
  rwa [Int.emod_eq_of_lt (hf k).1 (hf k).2, Int.emod_eq_of_lt (hg k).1 (hg k).2] at this
/-! ### the program's products -/
theorem ev_rowP (f g : List Int) (i : Nat) (o : List Int) (x : Int) : ∀ k, i + k ≤ o.length → ev (rowP f g i o k) x = ev o x + el f i * x ^ i * smT g x k
  | 0, _ => by simp [rowP, smT]
  | k + 1, h => by
    rw [rowP, ev_set _ _ _ _ (by rw [rowP_len]; omega), ev_rowP f g i o x k (by omega), smT, Int.pow_add]
    grind
theorem ev_prodP (f g : List Int) (x : Int) : ∀ n, n ≤ f.length → ev (prodP f g n) x = smT f x n * ev g x
  | 0, _ => by
    rw [prodP, smT, ev_el (g := []) (fun k => by rw [el_repl, el_nil'])]
    simp [ev]
  | n + 1, h => by
    rw [prodP, ev_rowP _ _ _ _ _ _ (by rw [prodP_len]; omega), ev_prodP f g x n (by omega), smT, ← ev_sum]
    grind
theorem ev_mulL (f g : List Int) (x : Int) : ev (mulL f g) x = ev f x * ev g x := by
  unfold mulL
  by_cases h : f.length = 0 ∨ g.length = 0
  · rw [if_pos h]
    rcases h with h | h
    · rw [List.eq_nil_of_length_eq_zero h]; simp [ev]
    · rw [List.eq_nil_of_length_eq_zero h]; simp [ev]
  · rw [if_neg h, ev_trim, ev_prodP _ _ _ _ (Nat.le_refl _), ← ev_sum]
theorem ev_mods (m : Int) : ∀ (f : List Int) (x : Int), ev f x = ev (f.map (· % m)) x + m * ev (f.map (· / m)) x
  | [], x => by simp [ev]
  | a :: f, x => by
    rw [List.map_cons, List.map_cons, ev, ev, ev]
    have h1 := ev_mods m f x
    have h2 := Int.emod_add_mul_ediv a m
    grind
theorem cg_red (m : Int) (f : List Int) : Cg m (ev f) (ev (redL m f)) := ⟨f.map (· / m), fun x => by rw [redL, ev_trim]; exact ev_mods m f x⟩
theorem cg_tim (p : Int) (f g : List Int) : Cg p (ev (timL p f g)) (fun x => ev f x * ev g x) :=
  (cg_red p (mulL f g)).symm.trans (Cg.of (ev_mulL f g))
theorem red_tidy (p : Int) (f : List Int) : Tidy (redL p f) := trimL_tidy _
theorem tim_tidy (p : Int) (f g : List Int) : Tidy (timL p f g) := trimL_tidy _
theorem tim_comm {p : Int} (hp : 1 ≤ p) (f g : List Int) : timL p f g = timL p g f :=
  ((cg_tim p f g).trans ((Cg.of fun x => Int.mul_comm _ _).trans (cg_tim p g f).symm)).eq (timL_in hp f g) (timL_in hp g f) (tim_tidy p f g) (tim_tidy p g f)
/-! ### quotients -/
theorem cg_subR (p c : Int) (g : List Int) (i : Nat) (r : List Int) : ∀ k, i + k ≤ r.length → Cg p (ev (subR p c g i r k)) (fun x => ev r x - c * x ^ i * smT g x k)
  | 0, _ => Cg.of fun x => by simp [subR, smT]
  | k + 1, h => by
    have ih := cg_subR p c g i r k (by omega)
    obtain ⟨l, e⟩ := ih
    have hl : i + k < (subR p c g i r k).length := by rw [subR_len]; omega
    have hq := Int.emod_add_mul_ediv (el (subR p c g i r k) (i + k) - c * el g k) p
    generalize hQ : (el (subR p c g i r k) (i + k) - c * el g k) / p = Q at hq
    refine ⟨addR l ((List.replicate (i + k + 1) 0).set (i + k) (-Q)), fun x => ?_⟩
    rw [subR, ev_set _ _ _ _ hl, e x, ev_add, ev_set _ _ _ _ (by simp), el_repl, ev_el (f := List.replicate (i + k + 1) 0) (g := []) (fun k => by rw [el_repl, el_nil'])]
    have h3 : smT g x (k + 1) = smT g x k + el g k * x ^ k := rfl
    simp only [ev, h3]
    have h2 := Int.pow_add x i k
    rw [h2]
    generalize (el (subR p c g i r k) (i + k) - c * el g k) % p = R at *
    generalize el (subR p c g i r k) (i + k) = E at *
    generalize x ^ i = X at *
    generalize x ^ k = Y at *
    generalize el g k = gk at *
    have e3 : R - E = - (c * gk) - p * Q := by omega
    rw [e3]
    grind
theorem divS_zero' (p v : Int) (f g : List Int) (n : Nat) : ∀ j, j ≤ n → ∀ k, k < n - j → el (divS p v f g n j).1 k = 0
  | 0, _, k, _ => by rw [divS, el_repl]
  | j + 1, hj, k, hk => by
    rw [divS]
    simp only
    rw [el_set (by rw [(divS_len p v f g n j).1]; omega), if_neg (by omega)]
    exact divS_zero' p v f g n j (by omega) k (by omega)
theorem cg_divS {p v : Int} {f g : List Int} (hg : 0 < g.length) : ∀ j, j ≤ divN f g → Cg p (ev f) (fun x => ev (divS p v f g (divN f g) j).1 x * ev g x + ev (divS p v f g (divN f g) j).2 x)
  | 0, _ => Cg.of fun x => by
    rw [divS, ev_el (f := List.replicate (divN f g) 0) (g := []) (fun k => by rw [el_repl, el_nil'])]
    simp [ev]
  | j + 1, hj => by
    have ih := cg_divS (p := p) (v := v) (f := f) hg j (by omega)
    have hz := divS_zero' p v f g (divN f g) j (by omega) (divN f g - 1 - j) (by omega)
    have hl := divS_len p v f g (divN f g) j
    rw [divS]
    simp only
    have hn : divN f g - 1 - j + g.length ≤ f.length := by unfold divN at hj ⊢; omega
    generalize divS p v f g (divN f g) j = st at *
    obtain ⟨q, r⟩ := st
    simp only at ih hz hl ⊢
    generalize el r (divN f g - 1 - j + g.length - 1) * v % p = c at *
    generalize hi : divN f g - 1 - j = i at *
    refine ih.trans ?_
    have h1 := cg_subR p c g i r g.length (by omega)
    have h2 := (Cg.of (p := p) (F := fun x => ev (q.set i c) x * ev g x) (G := fun x => ev (q.set i c) x * ev g x) (fun _ => rfl)).add h1
    refine Cg.trans ?_ h2.symm
    refine Cg.of fun x => ?_
    rw [ev_set _ _ _ _ (by omega), hz, ← ev_sum]
    grind
theorem cg_div {p : Int} {f g : List Int} (hg : 0 < g.length) : Cg p (ev f) (fun x => ev (quoQ p f g) x * ev g x + ev (remR p f g) x) := by
  refine (cg_divS (v := invV p (el g (g.length - 1))) hg _ (Nat.le_refl _)).trans (Cg.of fun x => ?_)
  unfold quoQ remR quoL remL
  rw [ev_trim, ev_trim]
/-! ### what remains is one -/
theorem mulR_lead : ∀ (f g : List Int) (m n : Nat), f.length = m + 1 → g.length = n + 1 → el (mulR f g) (m + n) = el f m * el g n
  | [], g, m, n, h, _ => by simp at h
  | [a], g, m, n, h, hg => by
    have : m = 0 := by simpa using h.symm
    subst this
    rw [mulR, el_add, el_smul, el_cons0, Nat.zero_add]
    have : el (0 :: mulR [] g) n = 0 := by
      cases n with
      | zero => rfl
      | succ n => rw [el_consS]; exact el_nil' n
    rw [this]; omega
  | a :: b :: f, g, m, n, h, hg => by
    obtain ⟨m, rfl⟩ : ∃ k, m = k + 1 := ⟨m - 1, by simp at h; omega⟩
    rw [mulR, el_add, el_smul, show m + 1 + n = (m + n) + 1 by omega, el_consS, el_consS, mulR_lead (b :: f) g m n (by simpa using h) hg, el_out (l := g) (by omega)]
    grind
theorem rem_zero {p : Int} {g r h : List Int} (hs : smallB p = true) (hg : In p g) (tg : Tidy g) (h0 : 0 < g.length) (hl : r.length < g.length) (hc : Cg p (ev r) (fun x => ev g x * ev h x)) (k : Nat) : el r k % p = 0 := by
  have hp := small_bd hs
  have hpr : primeB p = true := by unfold smallB at hs; rw [Bool.and_eq_true] at hs; exact hs.2
  have c1 : Cg p (ev r) (ev (mulR g (redL p h))) := hc.trans (((cg_red p h).mul g).trans (Cg.of fun x => (ev_mul g _ x).symm))
  have ti := red_tidy p h
  have hi := redL_in (p := p) (by omega) h
  generalize redL p h = h1 at *
  by_cases hz : h1.length = 0
  · rw [List.eq_nil_of_length_eq_zero hz] at c1
    have c2 : Cg p (ev r) (ev []) := c1.trans (Cg.of fun x => by rw [ev_mul]; simp [ev])
    rw [c2.el k, el_nil']
    simp
  · exfalso
    obtain ⟨m, hm⟩ : ∃ m, h1.length = m + 1 := ⟨h1.length - 1, by omega⟩
    obtain ⟨n, hn⟩ : ∃ n, g.length = n + 1 := ⟨g.length - 1, by omega⟩
    have e := c1.el (n + m)
    rw [mulR_lead g h1 n m hn hm, el_out (l := r) (by omega)] at e
    have a1 : el g n ≠ 0 := by
      rcases tg with t | t
      · omega
      · rwa [hn] at t
    have a2 : el h1 m ≠ 0 := by
      rcases ti with t | t
      · omega
      · rwa [hm] at t
    refine prime_mul_mod hpr ?_ ?_ (by rw [← e]; simp)
    · rw [Int.emod_eq_of_lt (hg n).1 (hg n).2]; exact a1
    · rw [Int.emod_eq_of_lt (hi m).1 (hi m).2]; exact a2
theorem rem_same {p : Int} {f1 f2 g h : List Int} (hs : smallB p = true) (hg : In p g) (tg : Tidy g) (h0 : 0 < g.length) (i1 : In p f1) (i2 : In p f2) (hc : Cg p (fun x => ev f1 x - ev f2 x) (fun x => ev g x * ev h x)) : remR p f1 g = remR p f2 g := by
  have hp := small_bd hs
  have r1 := rem_lt (f := f1) hs hg h0 tg
  have r2 := rem_lt (f := f2) hs hg h0 tg
  have j1 := remR_in (p := p) g (by omega) i1
  have j2 := remR_in (p := p) g (by omega) i2
  have t1 := remR_tidy p f1 g
  have t2 := remR_tidy p f2 g
  have d1 := cg_div (p := p) (f := f1) h0
  have d2 := cg_div (p := p) (f := f2) h0
  generalize remR p f1 g = R1 at *
  generalize remR p f2 g = R2 at *
  generalize quoQ p f1 g = Q1 at *
  generalize quoQ p f2 g = Q2 at *
  have c1 : Cg p (ev (addR R1 (smul (-1) R2))) (fun x => ev g x * ev (addR h (addR Q2 (smul (-1) Q1))) x) := by
    have s1 := (d1.sub d2).symm.trans hc
    obtain ⟨l, e⟩ := s1
    refine ⟨l, fun x => ?_⟩
    have := e x
    simp only [ev_add, ev_smul]
    simp only at this
    grind
  have hz := rem_zero hs hg tg h0 (by rw [add_len, smul_len]; omega) c1
  refine tidy_eq (fun k => ?_) t1 t2
  have hk := hz k
  rw [el_add, el_smul] at hk
  have b1 := j1 k
  have b2 := j2 k
  have : (el R1 k + -1 * el R2 k) % p = 0 := hk
  obtain ⟨q, hq⟩ := Int.dvd_of_emod_eq_zero this
  have q0 : q = 0 := by
    apply Decidable.byContradiction
    intro hne
    rcases (show q ≤ -1 ∨ 1 ≤ q by omega) with h1 | h1
    · have := Int.mul_le_mul_of_nonneg_left h1 (show 0 ≤ p by omega)
      omega
    · have := Int.mul_le_mul_of_nonneg_left h1 (show 0 ≤ p by omega)
      omega
  subst q0
  omega
theorem rem_nil {p : Int} {f g h : List Int} (hs : smallB p = true) (hg : In p g) (tg : Tidy g) (h0 : 0 < g.length) (hf : In p f) (hc : Cg p (ev f) (fun x => ev g x * ev h x)) : remR p f g = [] := by
  have hp := small_bd hs
  have h1 := rem_same (f1 := f) (f2 := []) (h := h) hs hg tg h0 hf (fun k => by rw [el_nil']; omega) (by
    refine Cg.trans (Cg.of fun x => ?_) hc
    simp [ev])
  rw [h1]
  have : (remR p [] g).length = 0 := by
    have := rem_len p (invV p (el g (g.length - 1))) [] g
    unfold remR
    simpa using this
  exact List.eq_nil_of_length_eq_zero this

end Go.Proofs.Ytdkppikbneijaaa
