/- Slices of slices of int64: the laws' own comparisons and marks. -/
import Derived.Test.YtdgigkbfekbkkaaW
namespace Go.Proofs.Ytdgigkbfekbkkaa
open Go.RowKit
set_option linter.unusedVariables false
set_option linter.unusedSimpArgs false

theorem OwnLL.parts {w : World} {lo hi : Nat} {v : Value} {zss : List (List Int)} (h : OwnLL w lo hi v zss) : ∃ us a cap, v = .slice a zss.length cap ∧ zss.length ≤ cap ∧ cap ≤ maxLen ∧ (0 < zss.length → ∃ g, a = some ⟨g, 0, none⟩ ∧ g < w.heap.size ∧ lo ≤ g ∧ g < hi) ∧ OwnV 22 w lo (.slice a zss.length cap) us ∧ Fam w lo hi us zss := by
  obtain ⟨h1, h2, us, h3, h4⟩ := h
  obtain ⟨a, cap, h5, h6, h7, h8⟩ := h3.shape
  rw [h4.len] at h5 h6 h8
  subst h5
  refine ⟨us, a, cap, rfl, h6, h7, fun hp => ?_, h3, h4⟩
  obtain ⟨g, rfl⟩ := h8 hp
  exact ⟨g, rfl, (h3.lt g rfl).2, (h3.lt g rfl).1, h2 g rfl⟩

set_option maxHeartbeats 2000000 in
theorem eqInt64SS_same {v u : Value} {zss : List (List Int)} {w : World} {lo hi lo' hi' : Nat} (h : OwnLL w lo hi v zss) (h' : OwnLL w lo' hi' u zss) (hn : zss.length ≤ 1099511627776) :
    Calls Try.prog 30 #[v, u] w fun e w' => e = .returned (.bool true) ∧ Below w.heap.size w w' := by
  obtain ⟨us, a, cap, rfl, hcap, hmax, hg, hv, hf⟩ := h.parts
  obtain ⟨us', a', cap', rfl, hcap', hmax', hg', hv', hf'⟩ := h'.parts
  have HG := Lib.hid hg
  have HG' := Lib.hid hg'
  have HV := Lib.hid hv
  have HV' := Lib.hid hv'
  have HF := Lib.hid hf
  have HF' := Lib.hid hf'
  clear h h' hg hg' hv hv' hf hf'
  go_enter Try.func30, Try.ntmps30
  go_wp2
  go_loopw [5] (fun c wr => ∃ k : Nat, c = .int .i64 (k : Int) ∧ k ≤ zss.length ∧ Below w.heap.size w wr) (fun c _ => zss.length - (intOf c).toNat)
  case atStart => exact ⟨0, rfl, by omega, Below.refl _ _⟩
  case round =>
    obtain ⟨k, rfl, hk, hbel⟩ := hrel
    have HB := Lib.hid hbel
    clear hbel
    by_cases hlt : k < zss.length
    · obtain ⟨g, rfl, g1, _, _⟩ := HG.out (by omega)
      obtain ⟨g', rfl, g1', _, _⟩ := HG'.out (by omega)
      have f1 : wr.cell? ⟨g, k, none⟩ = some (at_ us k) := by rw [HB.out.cell (p := ⟨g, k, none⟩) g1]; exact HV.out.cellAt (at_get (by have := HF.out.len; omega))
      have f2 : wr.cell? ⟨g', k, none⟩ = some (at_ us' k) := by rw [HB.out.cell (p := ⟨g', k, none⟩) g1']; exact HV'.out.cellAt (at_get (by have := HF'.out.len; omega))
      have f3 : g < wr.heap.size := by have := HB.out.size; omega
      have f4 : g' < wr.heap.size := by have := HB.out.size; omega
      have r1 : ∀ x, Reads (wext wr x) (at_ us k) (row zss k) := fun x => (((HF.out.own k hlt).step HB.out).step (wext_below wr x)).reads
      have r2 : ∀ x, Reads (wext wr x) (at_ us' k) (row zss k) := fun x => (((HF'.out.own k hlt).step HB.out).step (wext_below wr x)).reads
      go_wp2_with (first | (go_at_call 15; ((with_reducible refine (eqInt64S_same (r1 _) (r2 _)).mono ?_); rintro e w1_hb0 ⟨rfl, hb0⟩; obtain ⟨chb0, fhb0, shb0⟩ := bfacts2 hb0; (try simp at shb0))) | (refine wp_region_wext (by kernel_rfl) (by kernel_rfl) ?_; (repeat (go_big_quiet_step (first | (go_at_call 15; with_reducible refine calls_wext (eqInt64S_same (r1 _) (r2 _)))))); refine wpQuiet_nil ?_; intro w1_hbq hbq; replace hbq := below_of_wext hbq; obtain ⟨chbq, fhbq, shbq⟩ := bfacts2 hbq; (try simp at shbq)))
      go_roundw
      case rel => exact ⟨k + 1, by go_num, by omega, by have := HB.out; first | exact this.trans (by assumption) | exact this.trans ((by assumption : Below wr.heap.size wr _).mono (by have := HB.out.size; omega))⟩
      case measure => simp [intOf]; omega
    · obtain rfl : k = zss.length := by omega
      go_wp2
      go_ret
      exact ⟨rfl, HB.out⟩

/-- How many numbers the first j rows hold. -/
def pre (zss : List (List Int)) : Nat → Nat
  | 0 => 0
  | j + 1 => pre zss j + (row zss j).length
theorem pre_mono (zss : List (List Int)) {i j : Nat} (h : i ≤ j) : pre zss i ≤ pre zss j := by
  induction h with
  | refl => exact Nat.le_refl _
  | step _ ih => simp only [pre]; omega
/-- The rows with the first i of them marked, from k on. -/
def mk (zss : List (List Int)) (k : Int) : Nat → List (List Int)
  | 0 => zss
  | i + 1 => (mk zss k i).set i (seqL (k + pre zss i) (row zss i).length)
theorem mk_len (zss : List (List Int)) (k : Int) : ∀ i, (mk zss k i).length = zss.length
  | 0 => rfl
  | i + 1 => by simp only [mk, List.length_set]; exact mk_len zss k i
theorem row_set {zss : List (List Int)} {i j : Nat} {z : List Int} (hi : i < zss.length) : row (zss.set i z) j = if i = j then z else row zss j := by
  simp only [row, List.getD_eq_getElem?_getD, List.getElem?_set]
  by_cases h : i = j
  · subst h; simp [hi]
  · simp [h]
theorem row_mk (zss : List (List Int)) (k : Int) : ∀ i, i ≤ zss.length → ∀ j, row (mk zss k i) j = if j < i then seqL (k + pre zss j) (row zss j).length else row zss j
  | 0, _, j => by simp [mk]
  | i + 1, hi, j => by
    rw [mk, row_set (by rw [mk_len]; omega), row_mk zss k i (by omega) j]
    by_cases h : i = j
    · subst h; rw [if_pos rfl, if_pos (by omega)]
    · rw [if_neg h]
      by_cases h2 : j < i
      · rw [if_pos h2, if_pos (by omega)]
      · rw [if_neg h2, if_neg (by omega)]
theorem Fam.upd {w w' : World} {lo hi : Nat} {us : List Value} {zss : List (List Int)} {i : Nat} {zs : List Int} (h : Fam w lo hi us zss) (hii : i < zss.length) (ho : Own w' lo (at_ us i) zs) (hg : w.grownBy w' (at_ us i).ownBlock) : Fam w' lo hi us (zss.set i zs) := by
  refine ⟨by simpa using h.len, fun j hj => ?_, by simpa using h.top, by simpa using h.apart⟩
  rw [row_set hii]
  by_cases e : i = j
  · subst e; rw [if_pos rfl]; exact ho
  · rw [if_neg e]
    have hj' : j < zss.length := by simpa using hj
    refine (h.own j hj').kept hg ?_
    by_cases hlt : j < i
    · exact h.apart j i hlt hii
    · rcases h.apart i j (by omega) hj' with h1 | h1
      · rw [h1]; cases (at_ us j).ownBlock <;> simp
      · exact .inr (fun e => h1 e.symm)
def markLL (zss : List (List Int)) (k : Int) : List (List Int) := mk zss k zss.length

set_option maxHeartbeats 2000000 in
theorem markInt64SS_any {v : Value} {zss : List (List Int)} {lo hi : Nat} {w : World} (k : Int) (hk0 : 0 ≤ k) (hk1 : k + pre zss zss.length ≤ 1099511627776) (hn : zss.length ≤ 1099511627776) (h : OwnLL w lo hi v zss) :
    Calls Try.prog 31 #[v, .int .i64 k] w fun e w' => e = .returned (.int .i64 (k + pre zss zss.length)) ∧ OwnLL w' lo hi v (markLL zss k) ∧ Touch lo hi w w' := by
  obtain ⟨us, a, cap, rfl, hcap, hmax, hg, hv, hf⟩ := h.parts
  have H1 := Lib.hid h.1
  have H2 := Lib.hid h.2.1
  have HG := Lib.hid hg
  have HV := Lib.hid hv
  have HF := Lib.hid hf
  clear h hg hv hf
  go_enter Try.func31, Try.ntmps31
  go_wp2
  go_loopw [5, 1] (fun c d wr => ∃ i : Nat, c = .int .i64 (i : Int) ∧ d = .int .i64 (k + pre zss i) ∧ i ≤ zss.length ∧ OwnV 22 wr lo (.slice a zss.length cap) us ∧ Fam wr lo hi us (mk zss k i) ∧ Touch lo hi w wr) (fun c _ _ => zss.length - (intOf c).toNat)
  case atStart => exact ⟨0, rfl, by simp [pre], by omega, HV.out, HF.out, Touch.refl⟩
  case round =>
    clear HV HF
    obtain ⟨i, rfl, rfl, hi', hv, hf, ht⟩ := hrel
    have HV := Lib.hid hv
    have HF := Lib.hid hf
    have HT := Lib.hid ht
    clear hv hf ht
    have hpm := pre_mono zss hi'
    by_cases hlt : i < zss.length
    · obtain ⟨g, rfl, g1, _, _⟩ := HG.out (by omega)
      have hlm : i < (mk zss k i).length := by rw [mk_len]; exact hlt
      have hown := HF.out.own i hlm
      rw [row_mk zss k i hi', if_neg (by omega)] at hown
      have HO := Lib.hid hown
      have f1 : wr.cell? ⟨g, i, none⟩ = some (at_ us i) := HV.out.cellAt (at_get (by have := HF.out.len; omega))
      clear hown hlm
      go_wp2_with (go_at_call 20; with_reducible refine (markInt64S_any _ (by omega) (by omega) HO.out).mono ?_)
      rintro _ w2 ⟨rfl, o2, hg2⟩
      have hp2 := pre_mono zss (show i + 1 ≤ zss.length from hlt)
      have hps : pre zss (i + 1) = pre zss i + (row zss i).length := rfl
      have HF2 := Lib.hid (show Fam w2 lo hi us (mk zss k (i + 1)) from HF.out.upd (by rw [mk_len]; exact hlt) o2 hg2)
      have HV2 := Lib.hid (HV.out.kept hg2 (own_typesR (by decide) HV.out HO.out))
      have HT2 := Lib.hid (HT.out.trans (Touch.of_grown hg2 (fun j hj => ⟨(HO.out.lt j hj).1, HF.out.top i (by rw [mk_len]; exact hlt) j hj⟩)))
      have hb1 : 0 ≤ k + (pre zss i : Int) + ((row zss i).length : Int) ∧ k + (pre zss i : Int) + ((row zss i).length : Int) ≤ 1099511627776 := by omega
      have HPS := Lib.hid hps
      clear o2 hg2 hps hp2 f1
      go_wp2
      go_roundw
      case rel => exact ⟨i + 1, by go_num, by rw [HPS.out]; congr 1; omega, by omega, HV2.out, HF2.out, HT2.out⟩
      case measure => simp [intOf]; omega
    · obtain rfl : i = zss.length := by omega
      go_wp2
      go_ret
      exact ⟨rfl, ⟨Nat.le_trans H1.out HT.out.size, H2.out, us, HV.out, HF.out⟩, HT.out⟩

set_option maxHeartbeats 2000000 in
theorem heldInt64SS_any {v : Value} {zss : List (List Int)} {lo hi : Nat} {w : World} (k : Int) (hk0 : 0 ≤ k) (hk1 : k + pre zss zss.length ≤ 1099511627776) (hn : zss.length ≤ 1099511627776) (h : OwnLL w lo hi v (markLL zss k)) :
    Calls Try.prog 32 #[v, .int .i64 k] w fun e w' => e = .returned (.int .i64 (k + pre zss zss.length)) ∧ w = w' := by
  obtain ⟨us, a, cap, hvv, hcap, hmax, hg, hv, hf⟩ := h.parts
  have hml : (markLL zss k).length = zss.length := mk_len _ _ _
  rw [hml] at hvv hcap hg hv
  subst hvv
  have HG := Lib.hid hg
  have HV := Lib.hid hv
  have HF := Lib.hid hf
  have HM := Lib.hid hml
  clear h hg hv hf hml
  go_enter Try.func32, Try.ntmps32
  go_wp2
  go_loop [5, 1] (fun c d => ∃ i : Nat, c = .int .i64 (i : Int) ∧ d = .int .i64 (k + pre zss i) ∧ i ≤ zss.length) (fun c _ => zss.length - (intOf c).toNat)
  case atStart => exact ⟨0, rfl, by simp [pre], by omega⟩
  case round =>
    obtain ⟨i, rfl, rfl, hi'⟩ := hrel
    have hpm := pre_mono zss hi'
    by_cases hlt : i < zss.length
    · obtain ⟨g, rfl, g1, _, _⟩ := HG.out (by omega)
      have hown := (HF.out.own i (by rw [HM.out]; exact hlt)).reads
      rw [show row (markLL zss k) i = _ from row_mk zss k _ (Nat.le_refl _) i, if_pos hlt] at hown
      have HO := Lib.hid hown
      have f1 : w.cell? ⟨g, i, none⟩ = some (at_ us i) := HV.out.cellAt (at_get (by have := HF.out.len; have := HM.out; omega))
      clear hown
      have hp2 := pre_mono zss (show i + 1 ≤ zss.length from hlt)
      have hps : pre zss (i + 1) = pre zss i + (row zss i).length := rfl
      have hb1 : 0 ≤ k + (pre zss i : Int) + ((row zss i).length : Int) ∧ k + (pre zss i : Int) + ((row zss i).length : Int) ≤ 1099511627776 := by omega
      have HPS := Lib.hid hps
      clear hps hp2
      go_wp2_with (go_at_call 21; ((with_reducible refine (heldInt64S_any _ (by omega) (by omega) HO.out).mono ?_); rintro e w' ⟨rfl, rfl⟩))
      go_round
      case rel => exact ⟨i + 1, by go_num, by rw [HPS.out]; congr 1; omega, by omega⟩
      case measure => simp [intOf]; omega
    · obtain rfl : i = zss.length := by omega
      go_wp2
      go_ret
      exact ⟨rfl, rfl⟩

theorem OwnLL.down {w : World} {lo lo' hi : Nat} {v : Value} {zss : List (List Int)} (h : OwnLL w lo hi v zss) (hl : lo' ≤ lo) : OwnLL w lo' hi v zss := by
  obtain ⟨h1, h2, us, h3, h4⟩ := h
  exact ⟨h1, h2, us, h3.mono hl, h4.len, fun i hi => (h4.own i hi).mono hl, h4.top, h4.apart⟩
theorem cycN_rows (zs : List Int) : ∀ i, ∀ c ∈ (cycN zs i).2, c.length ≤ zs.length
  | 0, c, h => by simp [cycN] at h
  | i + 1, c, h => by
    simp only [cycN] at h
    split at h
    · exact cycN_rows zs i c h
    · rcases List.mem_append.1 h with h | h
      · exact cycN_rows zs i c h
      · simp at h
        subst h
        have := (walkC_bd (zs := zs) zs.length (cycN zs i).1 [] i).2.1
        simpa using this
theorem pre_bd {zss : List (List Int)} {m : Nat} (h : ∀ c ∈ zss, c.length ≤ m) : ∀ i, i ≤ zss.length → pre zss i ≤ i * m
  | 0, _ => by simp [pre]
  | i + 1, hi => by
    have h1 := pre_bd h i (by omega)
    have h2 : (row zss i).length ≤ m := by
      rw [row, List.getD_eq_getElem?_getD, List.getElem?_eq_getElem (by omega)]
      exact h _ (List.getElem_mem _)
    rw [pre, Nat.add_mul]
    omega
theorem cycL_bd {zs : List Int} (h : permB zs = true) : (cycL zs).length ≤ 6 ∧ pre (cycL zs) (cycL zs).length ≤ 36 := by
  obtain ⟨h1, h2, _⟩ := permB_bd h
  have h3 : (cycL zs).length ≤ zs.length := (cycN_bd zs zs.length).2
  have h4 := pre_bd (cycN_rows zs zs.length) (cycL zs).length (Nat.le_refl _)
  have h5 := Nat.mul_le_mul (show (cycL zs).length ≤ 6 by omega) h2
  exact ⟨by omega, Nat.le_trans h4 (by omega)⟩

end Go.Proofs.Ytdgigkbfekbkkaa
