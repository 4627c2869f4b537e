/- Contracts: common divisors, derivatives, powers by a polynomial. -/
import Derived.Test.YtelpnpfmedlklaaOl
namespace Go.Proofs.Ytelpnpfmedlklaa
open Go.RowKit
set_option linter.unusedVariables false
set_option linter.unusedSimpArgs false

/-- How many elements a slice has. -/
def lenV : Value → Nat
  | .slice _ n _ => n
  | _ => 0
structure ComInv (p : Int) (f0 g0 F G : List Int) : Prop where
  goal : ∃ n, G.length < n ∧ comG p n F G = comG p (g0.length + 1) f0 g0
  inF : In p F
  inG : In p G
  lenF : F.length ≤ 900
  lenG : G.length ≤ 900
  tidy : Tidy G
theorem com_start {p : Int} {f g : List Int} (hf : In p f) (hg : In p g) (l1 : f.length ≤ 900) (l2 : g.length ≤ 900) (ht : Tidy g) : ComInv p f g f g := ⟨⟨g.length + 1, by omega, rfl⟩, hf, hg, l1, l2, ht⟩
theorem com_step {p : Int} {f g F G : List Int} (h : ComInv p f g F G) (hs : smallB p = true) (h0 : 0 < G.length) : ComInv p f g G (remR p F G) ∧ (remR p F G).length < G.length := by
  have hp := small_bd hs
  have hlt := rem_lt (f := F) hs h.inG h0 h.tidy
  obtain ⟨n, hn, hg⟩ := h.goal
  obtain ⟨k, rfl⟩ : ∃ k, n = k + 1 := ⟨n - 1, by omega⟩
  rw [comG, if_neg (by omega)] at hg
  exact ⟨⟨⟨k, by omega, hg⟩, h.inG, remR_in G (by omega) h.inF, h.lenG, by have := h.lenG; omega, remR_tidy p F G⟩, hlt⟩
theorem com_end {p : Int} {f g F G : List Int} (h : ComInv p f g F G) (h0 : G.length = 0) : comL p f g = monL p F := by
  obtain ⟨n, hn, hg⟩ := h.goal
  obtain ⟨k, rfl⟩ : ∃ k, n = k + 1 := ⟨n - 1, by omega⟩
  rw [comG, if_pos h0] at hg
  rw [comL, ← hg]

def derL (f : List Int) : List Int := (List.range (f.length - 1)).map (fun i : Nat => ((i : Int) + 1) * el f (i + 1))
theorem derL_len (f : List Int) : (derL f).length = f.length - 1 := by simp [derL]
theorem derL_el {f : List Int} {k : Nat} (h : k + 1 < f.length) : el (derL f) k = ((k : Int) + 1) * el f (k + 1) := by
  simp only [derL, el, List.getD_eq_getElem?_getD, List.getElem?_map, List.getElem?_range (show k < f.length - 1 by omega)]
  rfl
theorem derL_next {f : List Int} {k : Nat} (h : k + 1 < f.length) : (derL f).take k ++ [((k : Int) + 1) * el f (k + 1)] = (derL f).take (k + 1) := by
  rw [← derL_el h, take_next (by rw [derL_len]; omega)]

theorem derL_in {p : Int} {f : List Int} (hp : p ≤ 97) (h : In p f) : Bd 97 f := (h.bd (by omega)).mono hp
/-- The derivative by a prime. -/
def derP (p : Int) (f : List Int) : List Int := redL p (derL f)

def pwF (p : Int) (f : List Int) : Nat → List Int → List Int → Int → List Int
  | 0, o, _, _ => o
  | n + 1, o, b, e => if e ≤ 0 then o else pwF p f n (if e % 2 = 1 then remR p (timL p o b) f else o) (remR p (timL p b b) f) (e / 2)
def powL (p : Int) (b : List Int) (e : Int) (f : List Int) : List Int := pwF p f (e.toNat + 1) (remR p [1] f) (remR p b f) e
structure PwInv (p : Int) (f : List Int) (T : List Int) (o b : List Int) (e : Int) : Prop where
  goal : ∃ n : Nat, e.toNat < n ∧ pwF p f n o b e = T
  ino : In p o
  inb : In p b
  leno : o.length ≤ 400
  lenb : b.length ≤ 400
theorem rem_short {p : Int} {f g : List Int} (hs : smallB p = true) (hg : In p g) (hl : 0 < g.length) (hl2 : g.length ≤ 9) (ht : Tidy g) : (remR p f g).length ≤ 8 := by
  have := rem_lt (f := f) hs hg hl ht; omega
theorem pwl_start {p : Int} {f b : List Int} {e : Int} (hs : smallB p = true) (hf : In p f) (hl : 0 < f.length) (hl2 : f.length ≤ 9) (ht : Tidy f) (hb : In p b) : PwInv p f (powL p b e f) (remR p [1] f) (remR p b f) e := by
  have hp := small_bd hs
  refine ⟨⟨e.toNat + 1, by omega, rfl⟩, remR_in f (by omega) (in_one (by omega)), remR_in f (by omega) hb, ?_, ?_⟩
  · have := rem_short (f := [1]) hs hf hl hl2 ht; omega
  · have := rem_short (f := b) hs hf hl hl2 ht; omega
theorem pwl_odd {p : Int} {f T o b : List Int} {e : Int} (h : PwInv p f T o b e) (hs : smallB p = true) (hf : In p f) (hl : 0 < f.length) (hl2 : f.length ≤ 9) (ht : Tidy f) (he : 0 < e) (h1 : e % 2 = 1) : PwInv p f T (remR p (timL p o b) f) (remR p (timL p b b) f) (e / 2) := by
  have hp := small_bd hs
  obtain ⟨n, hn, hg⟩ := h.goal
  obtain ⟨k, rfl⟩ : ∃ k, n = k + 1 := ⟨n - 1, by omega⟩
  rw [pwF, if_neg (by omega), if_pos h1] at hg
  refine ⟨⟨k, by omega, hg⟩, remR_in f (by omega) (timL_in (by omega) _ _), remR_in f (by omega) (timL_in (by omega) _ _), ?_, ?_⟩
  · have := rem_short (f := timL p o b) hs hf hl hl2 ht; omega
  · have := rem_short (f := timL p b b) hs hf hl hl2 ht; omega
theorem pwl_even {p : Int} {f T o b : List Int} {e : Int} (h : PwInv p f T o b e) (hs : smallB p = true) (hf : In p f) (hl : 0 < f.length) (hl2 : f.length ≤ 9) (ht : Tidy f) (he : 0 < e) (h1 : e % 2 = 0) : PwInv p f T o (remR p (timL p b b) f) (e / 2) := by
  have hp := small_bd hs
  obtain ⟨n, hn, hg⟩ := h.goal
  obtain ⟨k, rfl⟩ : ∃ k, n = k + 1 := ⟨n - 1, by omega⟩
  rw [pwF, if_neg (by omega), if_neg (by omega)] at hg
  refine ⟨⟨k, by omega, hg⟩, h.ino, remR_in f (by omega) (timL_in (by omega) _ _), h.leno, ?_⟩
  have := rem_short (f := timL p b b) hs hf hl hl2 ht; omega
theorem pwl_end {p : Int} {f T o b : List Int} {e : Int} (h : PwInv p f T o b e) (he : e ≤ 0) : T = o := by
  obtain ⟨n, hn, hg⟩ := h.goal
  obtain ⟨k, rfl⟩ : ∃ k, n = k + 1 := ⟨n - 1, by omega⟩
  rw [pwF, if_pos he] at hg
  exact hg.symm

end Go.Proofs.Ytelpnpfmedlklaa
