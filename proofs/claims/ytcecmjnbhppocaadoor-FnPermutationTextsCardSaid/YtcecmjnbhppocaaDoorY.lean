/- Slices of slices of int64: the laws' own comparisons and marks. -/
import Derived.Test.YtcecmjnbhppocaaDoorW
namespace Go.Proofs.YtcecmjnbhppocaaDoor
open Go.RowKit
set_option linter.unusedVariables false
set_option linter.unusedSimpArgs false

theorem OwnLL.parts {w : World} {lo hi : Nat} {v : Value} {zss : List (List Int)} (h : OwnLL w lo hi v zss) : ∃ us a cap, v = .slice a zss.length cap ∧ zss.length ≤ cap ∧ cap ≤ maxLen ∧ (0 < zss.length → ∃ g, a = some ⟨g, 0, none⟩ ∧ g < w.heap.size ∧ lo ≤ g ∧ g < hi) ∧ OwnV 22 w lo (.slice a zss.length cap) us ∧ Fam w lo hi us zss := by
  obtain ⟨h1, h2, us, h3, h4⟩ := h
  obtain ⟨a, cap, h5, h6, h7, h8⟩ := h3.shape
  rw [h4.len] at h5 h6 h8
  subst h5
  refine ⟨us, a, cap, rfl, h6, h7, fun hp => ?_, h3, h4⟩
  obtain ⟨g, rfl⟩ := h8 hp
  exact ⟨g, rfl, (h3.lt g rfl).2, (h3.lt g rfl).1, h2 g rfl⟩

/-- How many numbers the first j rows hold. -/
def pre (zss : List (List Int)) : Nat → Nat
  | 0 => 0
  | j + 1 => pre zss j + (row zss j).length
theorem pre_mono (zss : List (List Int)) {i j : Nat} (h : i ≤ j) : pre zss i ≤ pre zss j := by
  induction h with
  | refl => exact Nat.le_refl _
  | step _ ih => simp only [pre]; omega
/-- The rows with the first i of them marked, from k on. -/
def mk (zss : List (List Int)) (k : Int) : Nat → List (List Int)
  | 0 => zss
  | i + 1 => (mk zss k i).set i (seqL (k + pre zss i) (row zss i).length)
theorem mk_len (zss : List (List Int)) (k : Int) : ∀ i, (mk zss k i).length = zss.length
  | 0 => rfl
  | i + 1 => by simp only [mk, List.length_set]; exact mk_len zss k i
theorem row_set {zss : List (List Int)} {i j : Nat} {z : List Int} (hi : i < zss.length) : row (zss.set i z) j = if i = j then z else row zss j := by
  simp only [row, List.getD_eq_getElem?_getD, List.getElem?_set]
  by_cases h : i = j
  · subst h; simp [hi]
  · simp [h]
theorem row_mk (zss : List (List Int)) (k : Int) : ∀ i, i ≤ zss.length → ∀ j, row (mk zss k i) j = if j < i then seqL (k + pre zss j) (row zss j).length else row zss j
  | 0, _, j => by simp [mk]
  | i + 1, hi, j => by
    rw [mk, row_set (by rw [mk_len]; omega), row_mk zss k i (by omega) j]
    by_cases h : i = j
    · subst h; rw [if_pos rfl, if_pos (by omega)]
    · rw [if_neg h]
      by_cases h2 : j < i
      · rw [if_pos h2, if_pos (by omega)]
      · rw [if_neg h2, if_neg (by omega)]
theorem Fam.upd {w w' : World} {lo hi : Nat} {us : List Value} {zss : List (List Int)} {i : Nat} {zs : List Int} (h : Fam w lo hi us zss) (hii : i < zss.length) (ho : Own w' lo (at_ us i) zs) (hg : w.grownBy w' (at_ us i).ownBlock) : Fam w' lo hi us (zss.set i zs) := by
  refine ⟨by simpa using h.len, fun j hj => ?_, by simpa using h.top, by simpa using h.apart⟩
  rw [row_set hii]
  by_cases e : i = j
  · subst e; rw [if_pos rfl]; exact ho
  · rw [if_neg e]
    have hj' : j < zss.length := by simpa using hj
    refine (h.own j hj').kept hg ?_
    by_cases hlt : j < i
    · exact h.apart j i hlt hii
    · rcases h.apart i j (by omega) hj' with h1 | h1
      · rw [h1]; cases (at_ us j).ownBlock <;> simp
      · exact .inr (fun e => h1 e.symm)
def markLL (zss : List (List Int)) (k : Int) : List (List Int) := mk zss k zss.length

theorem OwnLL.down {w : World} {lo lo' hi : Nat} {v : Value} {zss : List (List Int)} (h : OwnLL w lo hi v zss) (hl : lo' ≤ lo) : OwnLL w lo' hi v zss := by
  obtain ⟨h1, h2, us, h3, h4⟩ := h
  exact ⟨h1, h2, us, h3.mono hl, h4.len, fun i hi => (h4.own i hi).mono hl, h4.top, h4.apart⟩
theorem cycN_rows (zs : List Int) : ∀ i, ∀ c ∈ (cycN zs i).2, c.length ≤ zs.length
  | 0, c, h => by simp [cycN] at h
  | i + 1, c, h => by
    simp only [cycN] at h
    split at h
    · exact cycN_rows zs i c h
    · rcases List.mem_append.1 h with h | h
      · exact cycN_rows zs i c h
      · simp at h
        subst h
        have := (walkC_bd (zs := zs) zs.length (cycN zs i).1 [] i).2.1
        simpa using this
theorem pre_bd {zss : List (List Int)} {m : Nat} (h : ∀ c ∈ zss, c.length ≤ m) : ∀ i, i ≤ zss.length → pre zss i ≤ i * m
  | 0, _ => by simp [pre]
  | i + 1, hi => by
    have h1 := pre_bd h i (by omega)
    have h2 : (row zss i).length ≤ m := by
      rw [row, List.getD_eq_getElem?_getD, List.getElem?_eq_getElem (by omega)]
      exact h _ (List.getElem_mem _)
    rw [pre, Nat.add_mul]
    omega
theorem cycL_bd {zs : List Int} (h : permB zs = true) : (cycL zs).length ≤ 6 ∧ pre (cycL zs) (cycL zs).length ≤ 36 := by
  obtain ⟨h1, h2, _⟩ := permB_bd h
  have h3 : (cycL zs).length ≤ zs.length := (cycN_bd zs zs.length).2
  have h4 := pre_bd (cycN_rows zs zs.length) (cycL zs).length (Nat.le_refl _)
  have h5 := Nat.mul_le_mul (show (cycL zs).length ≤ 6 by omega) h2
  exact ⟨by omega, Nat.le_trans h4 (by omega)⟩

end Go.Proofs.YtcecmjnbhppocaaDoor
