/- Polynomials by a prime: what the three laws say: plain. -/
import Derived.Test.YtdkppikbneijaaaOs
import Derived.Test.YtdkppikbneijaaaOn
import Derived.Test.YtdkppikbneijaaaOp
namespace Go.Proofs.Ytdkppikbneijaaa
set_option linter.unusedVariables false
set_option linter.unusedSimpArgs false

/-! ### quotients -/
theorem tidy_quo (p : Int) (f g : List Int) : Tidy (quoQ p f g) := trimL_tidy _
theorem quoQ_in {p : Int} {f : List Int} (g : List Int) (hp : 1 ≤ p) (h : In p f) : In p (quoQ p f g) := quoL_in g hp h
theorem modlB_of {p : Int} {f : List Int} (hs : smallB p = true) (hf : In p f) (ht : Tidy f) (hl : f.length ≤ 9) : modlB p f = true := by
  rw [modlB_def, hs, Bool.and_eq_true, Bool.and_eq_true, Bool.and_eq_true]
  refine ⟨⟨⟨rfl, by simpa using hl⟩, ?_⟩, ?_⟩
  · rw [List.all_eq_true]
    intro x hx
    have := hf.all x hx
    exact inB_iff.2 ⟨by omega, by omega⟩
  · unfold lastB
    rcases ht with h | h
    · simp [h]
    · simp [h]
theorem quo_mod {p : Int} {f g : List Int} (hf : modlB p f = true) (hg : modlB p g = true) (h0 : 0 < g.length) : modlB p (quoQ p f g) = true ∧ (timL p g (quoQ p f g)).length ≤ 9 := by
  obtain ⟨p1, p2, hs, l1, i1⟩ := modl_in hf
  obtain ⟨_, _, _, l2, i2⟩ := modl_in hg
  have hq := quo_len p (invV p (el g (g.length - 1))) f g
  have hd : divN f g = f.length + 1 - g.length := rfl
  refine ⟨modlB_of hs (quoQ_in g (by omega) i1) (tidy_quo p f g) (by unfold quoQ; omega), ?_⟩
  have ht := timL_len p g (quoQ p f g)
  by_cases hz : (quoQ p f g).length = 0
  · have : mulL g (quoQ p f g) = [] := by unfold mulL; rw [if_pos (.inr hz)]
    have h2 := redL_len p (mulL g (quoQ p f g))
    rw [this] at h2
    unfold timL
    simp at h2
    rw [this, h2]
    simp
  · unfold quoQ at hz ht ⊢
    omega
theorem quo_back {p : Int} {f g : List Int} (hf : modlB p f = true) (hg : modlB p g = true) (h0 : 0 < g.length) : redL p (addR (timL p g (quoQ p f g)) (remR p f g)) = f := by
  obtain ⟨p1, p2, hs, l1, i1⟩ := modl_in hf
  have c := cg_div (p := p) (f := f) h0
  have e := (cg_tim p g (quoQ p f g)).add (Cg.of (p := p) (F := ev (remR p f g)) (fun _ => rfl))
  refine Cg.eq ?_ (redL_in (by omega) _) i1 (red_tidy _ _) (modl_tidy hf)
  refine (cg_red p _).symm.trans (Cg.trans (Cg.of fun x => ev_add _ _ x) (e.trans (Cg.trans (Cg.of fun x => ?_) c.symm)))
  rw [Int.mul_comm (ev g x)]
/-! ### common divisors -/
theorem com_dvd {p : Int} (hs : smallB p = true) : ∀ (n : Nat) (f g : List Int), g.length < n → In p f → In p g → Tidy g → Tidy f →
    (∃ h, Cg p (ev f) (fun x => ev (comG p n f g) x * ev h x)) ∧ (∃ h, Cg p (ev g) (fun x => ev (comG p n f g) x * ev h x)) ∧ (comG p n f g).length ≤ max f.length g.length ∧ In p (comG p n f g) ∧ Tidy (comG p n f g)
  | 0, f, g, h, _, _, _, _ => by omega
  | n + 1, f, g, hn, hf, hg, tg, tf => by
    have hp := small_bd hs
    rw [comG]
    by_cases h0 : g.length = 0
    · rw [if_pos h0]
      rw [List.eq_nil_of_length_eq_zero h0]
      exact ⟨⟨[1], Cg.of fun x => by simp [ev]⟩, ⟨[], Cg.of fun x => by simp [ev]⟩, by simp, hf, tf⟩
    · rw [if_neg h0]
      have hl := rem_lt (f := f) hs hg (by omega) tg
      obtain ⟨⟨h1, e1⟩, ⟨h2, e2⟩, l, i, t⟩ := com_dvd hs n g (remR p f g) (by omega) hg (remR_in g (by omega) hf) (remR_tidy p f g) tg
      have c := cg_div (p := p) (f := f) (g := g) (by omega)
      refine ⟨⟨addR (mulR (quoQ p f g) h1) h2, ?_⟩, ⟨h1, e1⟩, by omega, i, t⟩
      refine c.trans (((e1.mul (quoQ p f g)).add e2).trans (Cg.of fun x => ?_))
      rw [ev_add, ev_mul]
      grind
theorem mon_facts {p : Int} {d : List Int} (hs : smallB p = true) (hd : In p d) (td : Tidy d) (h0 : 0 < d.length) :
    (monL p d).length = d.length ∧ el (monL p d) (d.length - 1) = 1 ∧ In p (monL p d) ∧ Tidy (monL p d) ∧ ∀ f h, Cg p (ev f) (fun x => ev d x * ev h x) → ∃ k, Cg p (ev f) (fun x => ev (monL p d) x * ev k x) := by
  have hp := small_bd hs
  have hne : el d (d.length - 1) ≠ 0 := by
    rcases td with t | t
    · omega
    · exact t
  have hv := inv_ok hs (hd (d.length - 1)) hne
  have hm : monL p d = timL p d [invV p (el d (d.length - 1))] := by unfold monL; rw [if_neg (by omega)]
  rw [hm]
  have ct := cg_tim p d [invV p (el d (d.length - 1))]
  have ti := timL_in (p := p) (by omega) d [invV p (el d (d.length - 1))]
  have tt := tim_tidy p d [invV p (el d (d.length - 1))]
  have tl := timL_len p d [invV p (el d (d.length - 1))]
  generalize invV p (el d (d.length - 1)) = v at *
  generalize timL p d [v] = c at *
  have cs : Cg p (ev c) (ev (smul v d)) := ct.trans (Cg.of fun x => by rw [ev_smul]; simp [ev]; grind)
  have ce : ∀ k, el c k = v * el d k % p := fun k => by
    have := cs.el k
    rw [el_smul, Int.emod_eq_of_lt (ti k).1 (ti k).2] at this
    exact this
  have c1 : el c (d.length - 1) = 1 := by rw [ce, hv]
  have hlen : c.length = d.length := by
    have h1 : ¬ c.length ≤ d.length - 1 := fun hh => by
      rw [el_out (by omega)] at c1
      cases c1
    simp at tl
    omega
  refine ⟨hlen, c1, ti, tt, fun f h hc => ⟨smul (el d (d.length - 1)) h, hc.trans ?_⟩⟩
  have hone : Cg p (fun _ => 1) (fun _ => v * el d (d.length - 1)) := by
    have hq := Int.emod_add_mul_ediv (v * el d (d.length - 1)) p
    rw [hv] at hq
    refine ⟨[-((v * el d (d.length - 1)) / p)], fun x => ?_⟩
    simp only [ev]
    generalize (v * el d (d.length - 1)) / p = Q at *
    have : v * el d (d.length - 1) = 1 + p * Q := by omega
    rw [this]
    grind
  have s1 := hone.mul (mulR d h)
  have s2 := (ct.mulr (smul (el d (d.length - 1)) h)).symm
  refine Cg.trans (Cg.of fun x => ?_) (s1.trans (Cg.trans (Cg.of fun x => ?_) s2))
  · rw [ev_mul]; grind
  · rw [ev_mul, ev_smul]; simp [ev]; grind
theorem com_facts {p : Int} {f g : List Int} (hf : modlB p f = true) (hg : modlB p g = true) (h0 : 0 < (comL p f g).length) :
    modlB p (comL p f g) = true ∧ remR p f (comL p f g) = [] ∧ remR p g (comL p f g) = [] ∧ el (comL p f g) ((comL p f g).length - 1) = 1 := by
  obtain ⟨p1, p2, hs, l1, i1⟩ := modl_in hf
  obtain ⟨_, _, _, l2, i2⟩ := modl_in hg
  obtain ⟨⟨h1, e1⟩, ⟨h2, e2⟩, l, i, t⟩ := com_dvd hs (g.length + 1) f g (by omega) i1 i2 (modl_tidy hg) (modl_tidy hf)
  unfold comL at h0 ⊢
  generalize comG p (g.length + 1) f g = d at *
  have hd : 0 < d.length := by
    apply Decidable.byContradiction
    intro hh
    unfold monL at h0
    rw [if_pos (by omega)] at h0
    simp at h0
  obtain ⟨m1, m2, m3, m4, m5⟩ := mon_facts hs i t hd
  obtain ⟨k1, c1⟩ := m5 f h1 e1
  obtain ⟨k2, c2⟩ := m5 g h2 e2
  refine ⟨modlB_of hs m3 m4 (by omega), rem_nil hs m3 m4 h0 i1 c1, rem_nil hs m3 m4 h0 i2 c2, ?_⟩
  rw [m1]; exact m2
/-! ### roots -/
theorem ivS_ev (f : List Int) (x : Int) : ∀ j, j ≤ f.length → ivS f x j = ev (f.drop (f.length - j)) x
  | 0, _ => by simp [ivS, ev]
  | j + 1, h => by
    rw [ivS, ivS_ev f x j (by omega)]
    have hk : f.length - (j + 1) < f.length := by omega
    rw [List.drop_eq_getElem_cons hk, ev, show f.length - (j + 1) + 1 = f.length - j by omega]
    have : el f (f.length - 1 - j) = f[f.length - (j + 1)] := by
      rw [show f.length - 1 - j = f.length - (j + 1) by omega]
      simp [el, List.getElem?_eq_getElem hk]
    rw [this]
    grind
theorem iv_ev (f : List Int) (x : Int) : iv f x = ev f x := by
  unfold iv
  rw [ivS_ev f x _ (Nat.le_refl _)]
  simp
theorem lin_mod {p r : Int} (hs : smallB p = true) (h : 0 ≤ r ∧ r < p) : modlB p [(p - r) % p, 1] = true := by
  have hp := small_bd hs
  refine modlB_of hs (In.of (by omega) ?_) (.inr (by simp [el])) (by simp)
  intro y hy
  simp at hy
  rcases hy with rfl | rfl
  · exact ⟨Int.emod_nonneg _ (by omega), Int.emod_lt_of_pos _ (by omega)⟩
  · omega
theorem root_rem {p r : Int} {f : List Int} (hf : modlB p f = true) (h : 0 ≤ r ∧ r < p) (hr : valM p f r = 0) : remR p f [(p - r) % p, 1] = [] := by
  obtain ⟨p1, p2, hs, l1, i1⟩ := modl_in hf
  have hm := lin_mod hs h
  obtain ⟨_, _, _, _, ig⟩ := modl_in hm
  have hl := rem_lt (f := f) hs ig (by simp) (modl_tidy hm)
  have hi := remR_in [(p - r) % p, 1] (by omega) i1
  have ht := remR_tidy p f [(p - r) % p, 1]
  obtain ⟨k, e⟩ := cg_div (p := p) (f := f) (g := [(p - r) % p, 1]) (by simp)
  generalize quoQ p f [(p - r) % p, 1] = Q at *
  generalize remR p f [(p - r) % p, 1] = R at *
  have e1 : ev f r = ev Q r * ev [(p - r) % p, 1] r + ev R r + p * ev k r := e r
  rw [valM_eq, iv_ev] at hr
  have hR : ev R r = el R 0 := by
    rw [ev_upto (n := 1) (by simp at hl; omega)]
    simp [smT]
  rw [hR] at e1
  have hz : ((p - r) % p + r) % p = 0 := by rw [Int.emod_add_emod]; simp
  obtain ⟨z, hz⟩ := Int.dvd_of_emod_eq_zero hz
  obtain ⟨y, hy⟩ := Int.dvd_of_emod_eq_zero hr
  have hg1 : ∀ a : Int, ev [a, 1] r = a + r := fun a => by simp [ev]
  have hg : ev [(p - r) % p, 1] r = p * z := by rw [hg1]; exact hz
  rw [hg, hy] at e1
  have h2 : el R 0 = p * (y - ev Q r * z - ev k r) := by grind
  have h3 : el R 0 % p = 0 := by rw [h2]; simp
  rw [Int.emod_eq_of_lt (hi 0).1 (hi 0).2] at h3
  refine tidy_eq (fun j => ?_) ht (.inl rfl)
  rw [el_nil']
  cases j with
  | zero => exact h3
  | succ j => exact el_out (by simp at hl; omega)
/-! ### powers of x -/
/-- The same by p and by the polynomial f. -/
def Md (p : Int) (f : List Int) (F G : Int → Int) : Prop := ∃ h, Cg p F (fun x => G x + ev f x * ev h x)
theorem Md.of {p : Int} {f : List Int} {F G : Int → Int} (h : Cg p F G) : Md p f F G := ⟨[], h.trans (Cg.of fun x => by simp [ev])⟩
theorem Md.trans {p : Int} {f : List Int} {F G H : Int → Int} (h : Md p f F G) (k : Md p f G H) : Md p f F H := by
  obtain ⟨a, l, e⟩ := h
  obtain ⟨b, m, e'⟩ := k
  exact ⟨addR a b, addR l m, fun x => by simp only [ev_add, e x, e' x]; grind⟩
theorem Md.symm {p : Int} {f : List Int} {F G : Int → Int} (h : Md p f F G) : Md p f G F := by
  obtain ⟨a, l, e⟩ := h
  exact ⟨smul (-1) a, smul (-1) l, fun x => by simp only [ev_smul, e x]; grind⟩
theorem Md.mull {p : Int} {f : List Int} {F G : Int → Int} (a : List Int) (h : Md p f F G) : Md p f (fun x => ev a x * F x) (fun x => ev a x * G x) := by
  obtain ⟨h, l, e⟩ := h
  exact ⟨mulR a h, mulR a l, fun x => by simp only [ev_mul, e x]; grind⟩
theorem Md.fn {p : Int} {f : List Int} {F G F' G' : Int → Int} (h : Md p f F G) (e1 : ∀ x, F' x = F x) (e2 : ∀ x, G x = G' x) : Md p f F' G' := by
  obtain ⟨h, l, e⟩ := h
  exact ⟨h, l, fun x => by rw [e1]; show F x = G' x + ev f x * ev h x + p * ev l x; rw [← e2]; exact e x⟩
theorem Md.mul {p : Int} {f : List Int} {a a' b b' : List Int} (h : Md p f (ev a) (ev a')) (k : Md p f (ev b) (ev b')) : Md p f (ev (mulR a b)) (ev (mulR a' b')) :=
  ((k.mull a).fn (ev_mul a b) (fun x => rfl)).trans ((h.mull b').fn (fun x => Int.mul_comm _ _) (fun x => by rw [ev_mul]; exact Int.mul_comm _ _))
def pwr (b : List Int) : Nat → List Int
  | 0 => [1]
  | k + 1 => mulR (pwr b k) b
theorem ev_pwr (b : List Int) (x : Int) : ∀ k, ev (pwr b k) x = ev b x ^ k
  | 0 => by simp [pwr, ev]
  | k + 1 => by rw [pwr, ev_mul, ev_pwr b x k, Int.pow_succ]
theorem Md.pwr {p : Int} {f a b : List Int} (h : Md p f (ev a) (ev b)) : ∀ k, Md p f (ev (pwr a k)) (ev (pwr b k))
  | 0 => Md.of (Cg.of fun _ => rfl)
  | k + 1 => (Md.pwr h k).mul h
theorem md_rem {p : Int} {a f : List Int} (h0 : 0 < f.length) : Md p f (ev (remR p a f)) (ev a) := by
  obtain ⟨l, e⟩ := (cg_div (p := p) (f := a) h0)
  exact ⟨smul (-1) (quoQ p a f), smul (-1) l, fun x => by have := e x; simp only [ev_smul]; grind⟩
theorem md_tim {p : Int} {f a b : List Int} : Md p f (ev (timL p a b)) (ev (mulR a b)) := Md.of ((cg_tim p a b).trans (Cg.of fun x => (ev_mul a b x).symm))
theorem pw_md {p : Int} {f : List Int} (h0 : 0 < f.length) : ∀ (n : Nat) (o b : List Int) (e : Int), e.toNat < n → Md p f (ev (pwF p f n o b e)) (ev (mulR o (pwr b e.toNat)))
  | 0, o, b, e, h => by omega
  | n + 1, o, b, e, h => by
    rw [pwF]
    by_cases he : e ≤ 0
    · rw [if_pos he, show e.toNat = 0 by omega]
      exact Md.of (Cg.of fun x => by rw [ev_mul]; simp [_root_.Go.Proofs.Ytdkppikbneijaaa.pwr, ev])
    · rw [if_neg he]
      have hb : Md p f (ev (remR p (timL p b b) f)) (ev (mulR b b)) := (md_rem h0).trans md_tim
      have ih := pw_md (p := p) h0 n (if e % 2 = 1 then remR p (timL p o b) f else o) (remR p (timL p b b) f) (e / 2) (by omega)
      refine ih.trans ?_
      by_cases hodd : e % 2 = 1
      · rw [if_pos hodd]
        have ho : Md p f (ev (remR p (timL p o b) f)) (ev (mulR o b)) := (md_rem h0).trans md_tim
        refine (ho.mul (hb.pwr (e / 2).toNat)).fn (fun _ => rfl) (fun x => ?_)
        rw [ev_mul, ev_mul, ev_mul, ev_pwr, ev_pwr, ev_mul, show e.toNat = 2 * (e / 2).toNat + 1 by omega, Int.pow_succ, Int.pow_mul, show (ev b x) ^ 2 = ev b x * ev b x by rw [Int.pow_succ, Int.pow_succ, Int.pow_zero, Int.one_mul]]
        grind
      · rw [if_neg hodd]
        have ho : Md p f (ev o) (ev o) := Md.of (Cg.of fun _ => rfl)
        refine (ho.mul (hb.pwr (e / 2).toNat)).fn (fun _ => rfl) (fun x => ?_)
        rw [ev_mul, ev_mul, ev_pwr, ev_pwr, ev_mul, show e.toNat = 2 * (e / 2).toNat by omega, Int.pow_mul, show (ev b x) ^ 2 = ev b x * ev b x by rw [Int.pow_succ, Int.pow_succ, Int.pow_zero, Int.one_mul]]
/-- A list that no division changes. -/
def Short (p : Int) (f o : List Int) : Prop := In p o ∧ Tidy o ∧ o.length < f.length
theorem rem_Short {p : Int} {a f : List Int} (hs : smallB p = true) (hf : In p f) (tf : Tidy f) (h0 : 0 < f.length) (ha : In p a) : Short p f (remR p a f) :=
  ⟨remR_in f (by have := small_bd hs; omega) ha, remR_tidy p a f, rem_lt hs hf h0 tf⟩
theorem pw_short {p : Int} {f : List Int} (hs : smallB p = true) (hf : In p f) (tf : Tidy f) (h0 : 0 < f.length) : ∀ (n : Nat) (o b : List Int) (e : Int), Short p f o → Short p f (pwF p f n o b e)
  | 0, o, b, e, h => h
  | n + 1, o, b, e, h => by
    have hp := small_bd hs
    rw [pwF]
    split
    · exact h
    · refine pw_short hs hf tf h0 n _ _ _ ?_
      split
      · exact rem_Short hs hf tf h0 (timL_in (by omega) _ _)
      · exact h
theorem short_eq {p : Int} {g R1 R2 : List Int} (hs : smallB p = true) (hg : In p g) (tg : Tidy g) (s1 : Short p g R1) (s2 : Short p g R2) (hc : Md p g (ev R1) (ev R2)) : R1 = R2 := by
  have hp := small_bd hs
  obtain ⟨j1, t1, r1⟩ := s1
  obtain ⟨j2, t2, r2⟩ := s2
  obtain ⟨h, l, e⟩ := hc
  have c1 : Cg p (ev (addR R1 (smul (-1) R2))) (fun x => ev g x * ev h x) := ⟨l, fun x => by
    have := e x
    simp only [ev_add, ev_smul]
    grind⟩
  have hz := rem_zero hs hg tg (by omega) (by rw [add_len, smul_len]; omega) c1
  refine tidy_eq (fun k => ?_) t1 t2
  have hk := hz k
  rw [el_add, el_smul] at hk
  have b1 := j1 k
  have b2 := j2 k
  obtain ⟨q, hq⟩ := Int.dvd_of_emod_eq_zero hk
  have q0 : q = 0 := by
    apply Decidable.byContradiction
    intro hne
    rcases (show q ≤ -1 ∨ 1 ≤ q by omega) with h1 | h1
    · have := Int.mul_le_mul_of_nonneg_left h1 (show 0 ≤ p by omega)
      omega
    · have := Int.mul_le_mul_of_nonneg_left h1 (show 0 ≤ p by omega)
      omega
  subst q0
  omega
theorem powL_facts {p e : Int} {f : List Int} (hf : modlB p f = true) (h0 : 0 < f.length) : Short p f (powL p [0, 1] e f) ∧ Md p f (ev (powL p [0, 1] e f)) (ev (pwr [0, 1] e.toNat)) := by
  obtain ⟨p1, p2, hs, l1, i1⟩ := modl_in hf
  have tf := modl_tidy hf
  refine ⟨pw_short hs i1 tf h0 _ _ _ _ (rem_Short hs i1 tf h0 (in_one (by omega))), ?_⟩
  have hb : Md p f (ev (remR p [0, 1] f)) (ev [0, 1]) := md_rem h0
  have ho : Md p f (ev (remR p [1] f)) (ev [1]) := md_rem h0
  unfold powL
  refine (pw_md h0 _ _ _ _ (by omega)).trans ((ho.mul (hb.pwr e.toNat)).fn (fun _ => rfl) (fun x => ?_))
  rw [ev_mul]
  simp [ev]
theorem pow_next {p e : Int} {g : List Int} (hg : modlB p g = true) (h0 : 0 < g.length) (he : 0 ≤ e) : remR p (0 :: powL p [0, 1] e g) g = powL p [0, 1] (e + 1) g ∧ (powL p [0, 1] e g = [] → powL p [0, 1] (e + 1) g = []) ∧
    (powL p [0, 1] e g ≠ [] → g.length < 9 → modlB p (0 :: powL p [0, 1] e g) = true) := by
  obtain ⟨p1, p2, hs, l1, i1⟩ := modl_in hg
  have tg := modl_tidy hg
  obtain ⟨s1, m1⟩ := powL_facts (e := e) hg h0
  obtain ⟨s2, m2⟩ := powL_facts (e := e + 1) hg h0
  rw [show (e + 1).toNat = e.toNat + 1 by omega] at m2
  have m3 : Md p g (ev (powL p [0, 1] (e + 1) g)) (ev (0 :: powL p [0, 1] e g)) := by
    refine m2.trans ((m1.symm.mul (Md.of (Cg.of (F := ev [0, 1]) (G := ev [0, 1]) fun _ => rfl))).fn (fun _ => rfl) (fun x => ?_))
    rw [ev_mul]
    simp [ev]
    grind
  generalize powL p [0, 1] (e + 1) g = N at *
  generalize powL p [0, 1] e g = X at *
  have iX : In p (0 :: X) := fun k => by
    cases k with
    | zero => rw [el_cons0]; omega
    | succ k => rw [el_consS]; exact s1.1 k
  refine ⟨short_eq hs i1 tg (rem_Short hs i1 tg h0 iX) s2 ((md_rem h0).trans m3.symm), fun hX => ?_, fun hX hl => ?_⟩
  · subst hX
    refine short_eq hs i1 tg s2 ⟨fun k => by rw [el_nil']; omega, .inl rfl, h0⟩ (m3.fn (fun _ => rfl) (fun x => by simp [ev]))
  · refine modlB_of hs iX ?_ (by have := s1.2.2; simp; omega)
    rcases s1.2.1 with t | t
    · exact absurd (List.eq_nil_of_length_eq_zero t) hX
    · right
      obtain ⟨m, hm⟩ : ∃ m, X.length = m + 1 := ⟨X.length - 1, by have := List.length_pos_iff.2 hX; omega⟩
      rw [List.length_cons, hm, Nat.add_sub_cancel, el_consS]
      rw [hm] at t
      exact t

end Go.Proofs.Ytdkppikbneijaaa
