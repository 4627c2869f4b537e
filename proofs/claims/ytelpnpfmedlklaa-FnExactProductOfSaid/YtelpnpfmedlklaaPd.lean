/- Slices of factors (a polynomial and a number of times): what they read, what a call owns; the laws' own measures and copies. -/
import Derived.Test.YtelpnpfmedlklaaKc
import Derived.Test.YtelpnpfmedlklaaY
import Derived.Test.YtelpnpfmedlklaaQ
import Derived.Deep.Slices
namespace Go.Proofs.Ytelpnpfmedlklaa
open Go.RowKit
set_option linter.unusedVariables false
set_option linter.unusedSimpArgs false

/-! ### rows of pairs -/
def cP (x : Value × Int) : List Value := [x.1, .int .i64 x.2]
theorem cP_len (x : Value × Int) : (cP x).length = 2 := rfl
@[reducible] def OwnP (w : World) (lo : Nat) (v : Value) (P : List (Value × Int)) : Prop := RowOwn 39 2 cP w lo v P
theorem infoF : (Try.prog.info? 39).map (fun i => (i.zero, i.size, i.bytes)) = some (some (.agg #[.slice none 0 0, .int .i64 0]), 2, 32) := by kernel_rfl
def pv (P : List (Value × Int)) (i : Nat) : Value := (P.getD i (nilS, 0)).1
def pn (P : List (Value × Int)) (i : Nat) : Int := (P.getD i (nilS, 0)).2
theorem pv_get {P : List (Value × Int)} {i : Nat} (h : i < P.length) : P[i] = (pv P i, pn P i) := by
  unfold pv pn; rw [List.getD_eq_getElem?_getD, List.getElem?_eq_getElem h]; rfl
theorem pv_at (P : List (Value × Int)) (i : Nat) : at_ (P.map (·.1)) i = pv P i := by
  unfold at_ pv
  rw [List.getD_eq_getElem?_getD, List.getD_eq_getElem?_getD, List.getElem?_map]
  cases P[i]? <;> rfl
theorem pn_el (P : List (Value × Int)) (i : Nat) : el (P.map (·.2)) i = pn P i := by
  unfold el pn
  rw [List.getD_eq_getElem?_getD, List.getD_eq_getElem?_getD, List.getElem?_map]
  cases P[i]? <;> rfl
theorem flat_set : ∀ (P : List (Value × Int)) (i : Nat) (u : Value) (t : Int), i < P.length → ((P.flatMap cP).set (i * 2) u).set (i * 2 + 1) (.int .i64 t) = (P.set i (u, t)).flatMap cP
  | [], i, u, t, h => by simp at h
  | (a, b) :: P, 0, u, t, h => by simp [cP]
  | (a, b) :: P, i + 1, u, t, h => by
    have := flat_set P i u t (by simpa using h)
    rw [show (i + 1) * 2 = i * 2 + 1 + 1 by omega]
    simp only [List.flatMap_cons, cP, List.cons_append, List.nil_append, List.set_cons_succ]
    rw [this]
theorem flat_set1 : ∀ (P : List (Value × Int)) (i : Nat) (t : Int), i < P.length → (P.flatMap cP).set (i * 2 + 1) (.int .i64 t) = (P.set i (pv P i, t)).flatMap cP
  | [], i, t, h => by simp at h
  | (a, b) :: P, 0, t, h => by simp [cP, pv]
  | (a, b) :: P, i + 1, t, h => by
    have := flat_set1 P i t (by simpa using h)
    rw [show (i + 1) * 2 = i * 2 + 1 + 1 by omega]
    have e : pv ((a, b) :: P) (i + 1) = pv P i := by simp [pv]
    rw [e]
    simp only [List.flatMap_cons, cP, List.cons_append, List.nil_append, List.set_cons_succ]
    rw [this]
theorem OwnP.at {w : World} {lo g n cap : Nat} {P : List (Value × Int)} (h : OwnP w lo (.slice (some ⟨g, 0, none⟩) n cap) P) {i : Nat} (hi : i < P.length) : w.cell? ⟨g, i * 2, none⟩ = some (pv P i) ∧ w.cell? ⟨g, i * 2 + 1, none⟩ = some (.int .i64 (pn P i)) := by
  have h1 := RowOwn.at h cP_len hi (show 0 < 2 by omega)
  have h2 := RowOwn.at h cP_len hi (show 1 < 2 by omega)
  rw [pv_get hi] at h1 h2
  exact ⟨h1, h2⟩
theorem OwnP.frozen {w : World} {lo g n cap : Nat} {P : List (Value × Int)} (h : OwnP w lo (.slice (some ⟨g, 0, none⟩) n cap) P) (k : Nat) : w.frozen? ⟨g, k, none⟩ = false := by
  have hn : n = P.length := by
    rcases h.2 with ⟨h', _⟩ | ⟨g', cap', cur, h', _⟩
    · simp at h'
    · injection h'
  subst hn
  exact World.ownsRow.frozenAt h k
theorem OwnP.stored {w : World} {lo g n cap : Nat} {P : List (Value × Int)} (h : OwnP w lo (.slice (some ⟨g, 0, none⟩) n cap) P) {i : Nat} (hi : i < P.length) (u : Value) (t : Int) :
    OwnP ((w.setCell ⟨g, i * 2, none⟩ u).setCell ⟨g, i * 2 + 1, none⟩ (.int .i64 t)) lo (.slice (some ⟨g, 0, none⟩) n cap) (P.set i (u, t)) ∧ w.grownBy ((w.setCell ⟨g, i * 2, none⟩ u).setCell ⟨g, i * 2 + 1, none⟩ (.int .i64 t)) (some g) := by
  have hn : n = P.length := by
    rcases h.2 with ⟨h', _⟩ | ⟨g', cap', cur, h', _⟩
    · simp at h'
    · injection h'
  subst hn
  obtain ⟨h1, h2⟩ := World.ownsRow.stored h (i * 2) u
  obtain ⟨h3, h4⟩ := World.ownsRow.stored h1 (i * 2 + 1) (.int .i64 t)
  refine ⟨?_, grown_trans h2 h4⟩
  unfold OwnP RowOwn
  rw [List.length_set, ← flat_set P i u t hi]
  exact h3
theorem OwnP.stored1 {w : World} {lo g n cap : Nat} {P : List (Value × Int)} (h : OwnP w lo (.slice (some ⟨g, 0, none⟩) n cap) P) {i : Nat} (hi : i < P.length) (t : Int) :
    OwnP (w.setCell ⟨g, i * 2 + 1, none⟩ (.int .i64 t)) lo (.slice (some ⟨g, 0, none⟩) n cap) (P.set i (pv P i, t)) ∧ w.grownBy (w.setCell ⟨g, i * 2 + 1, none⟩ (.int .i64 t)) (some g) := by
  have hn : n = P.length := by
    rcases h.2 with ⟨h', _⟩ | ⟨g', cap', cur, h', _⟩
    · simp at h'
    · injection h'
  subst hn
  obtain ⟨h1, h2⟩ := World.ownsRow.stored h (i * 2 + 1) (.int .i64 t)
  refine ⟨?_, h2⟩
  unfold OwnP RowOwn
  rw [List.length_set, ← flat_set1 P i t hi]
  exact h1
theorem made_pairs (n : Nat) : (madeCells #[.slice none 0 0, .int .i64 0] (n * 2)).toList = (List.replicate n (nilS, (0 : Int))).flatMap cP := by
  apply List.ext_getElem?
  intro i
  have e : i = (i / 2) * 2 + i % 2 := by omega
  by_cases h : i < n * 2
  · have h1 : i / 2 < (List.replicate n (nilS, (0 : Int))).length := by rw [List.length_replicate]; omega
    have h2 := row_get (cf := cP) cP_len (List.replicate n (nilS, (0 : Int))) (i / 2) (i % 2) h1 (by omega)
    rw [← e] at h2
    rw [h2, List.getElem_replicate]
    simp only [madeCells, Array.getElem?_toList, Array.getElem?_map]
    have h3 : i % 2 = 0 ∨ i % 2 = 1 := by omega
    rcases h3 with h3 | h3 <;> simp [Array.getElem?_range, h, h3, cP, nilS]
  · rw [List.getElem?_eq_none (by simp [madeCells]; omega), List.getElem?_eq_none (by rw [row_len cP_len, List.length_replicate]; omega)]

/-! ### what is read -/
/-- The value v is a slice of factors that read zss, ts. -/
def FReads (w : World) (v : Value) (zss : List (List Int)) (ts : List Int) : Prop :=
  ts.length = zss.length ∧ zss.length ≤ 1048576 ∧ (∀ i, i < zss.length → -9223372036854775808 ≤ el ts i ∧ el ts i ≤ 9223372036854775807) ∧
  ∃ (a : Option Addr) (cap : Nat) (U : Nat → Value), v = .slice a zss.length cap ∧ zss.length ≤ cap ∧ cap ≤ maxLen ∧
    (0 < zss.length → ∃ b o, a = some ⟨b, o, none⟩ ∧ b < w.heap.size ∧ ∀ i, i < zss.length → w.cell? ⟨b, o + i * 2, none⟩ = some (U i) ∧ w.cell? ⟨b, o + i * 2 + 1, none⟩ = some (.int .i64 (el ts i))) ∧
    ∀ i, i < zss.length → Reads w (U i) (row zss i)
theorem FReads.step {w w' : World} {v : Value} {zss : List (List Int)} {ts : List Int} (h : FReads w v zss ts) (hb : Below w.heap.size w w') : FReads w' v zss ts := by
  obtain ⟨h1, h2, h2', a, cap, U, h3, h4, h5, h6, h7⟩ := h
  refine ⟨h1, h2, h2', a, cap, U, h3, h4, h5, fun hp => ?_, fun i hi => (h7 i hi).step hb⟩
  obtain ⟨b, o, e, hbs, hc⟩ := h6 hp
  exact ⟨b, o, e, Nat.lt_of_lt_of_le hbs hb.size, fun i hi => ⟨(hb.cell (p := ⟨b, o + i * 2, none⟩) hbs).trans (hc i hi).1, (hb.cell (p := ⟨b, o + i * 2 + 1, none⟩) hbs).trans (hc i hi).2⟩⟩

/-! ### what is owned -/
/-- The value v is a slice of factors of the call's own; all of its memory lies from lo to hi. -/
def OwnF (w : World) (lo hi : Nat) (v : Value) (zss : List (List Int)) (ts : List Int) : Prop :=
  hi ≤ w.heap.size ∧ (∀ k, v.ownBlock = some k → k < hi) ∧ zss.length ≤ 1048576 ∧ (∀ i, i < zss.length → -9223372036854775808 ≤ el ts i ∧ el ts i ≤ 9223372036854775807) ∧
  ∃ P, OwnP w lo v P ∧ Fam w lo hi (P.map (·.1)) zss ∧ P.map (·.2) = ts
theorem OwnF.reads {w : World} {lo hi : Nat} {v : Value} {zss : List (List Int)} {ts : List Int} (h : OwnF w lo hi v zss ts) : FReads w v zss ts := by
  obtain ⟨h1, h2, h3, h3', P, h4, h5, rfl⟩ := h
  have hl : P.length = zss.length := by have := h5.len; simpa using this
  refine ⟨by simpa using hl, h3, h3', ?_⟩
  have hop := h4
  rcases h4.2 with ⟨e1, e2⟩ | ⟨g, cap, cur, e1, hg, hh, hc, hm, _⟩
  · subst e1
    have h0 : zss.length = 0 := by rw [← hl]; exact e2
    exact ⟨none, 0, fun i => pv P i, by rw [h0], by omega, by simp, fun hp => by omega, fun i hi => by omega⟩
  · subst e1
    refine ⟨_, cap, fun i => pv P i, by rw [hl], by omega, hm, fun hp => ⟨g, 0, rfl, (Array.getElem?_eq_some_iff.1 hh).1, fun i hi => ?_⟩, fun i hi => ?_⟩
    · rw [pn_el, Nat.zero_add]
      exact OwnP.at hop (by omega)
    · have := (h5.own i hi).reads
      rw [pv_at] at this
      exact this
theorem OwnF.step {w w' : World} {lo hi : Nat} {v : Value} {zss : List (List Int)} {ts : List Int} (h : OwnF w lo hi v zss ts) (hb : Below w.heap.size w w') : OwnF w' lo hi v zss ts := by
  obtain ⟨h1, h2, h3, h3', P, h4, h5, h6⟩ := h
  exact ⟨Nat.le_trans h1 hb.size, h2, h3, h3', P, RowOwn.step h4 hb, h5.step hb, h6⟩
def RetF (zss : List (List Int)) (ts : List Int) (w : World) (e : Ending) (w' : World) : Prop := ∃ v, e = .returned v ∧ OwnF w' w.heap.size w'.heap.size v zss ts ∧ Below w.heap.size w w'

/-! ### a law's argument -/
def lenOf : Value → Nat | .slice _ n _ => n | _ => 0
def preU (U : Nat → Value) : Nat → Nat
  | 0 => 0
  | k + 1 => preU U k + lenOf (U k)
theorem preU_mono (U : Nat → Value) {i j : Nat} (h : i ≤ j) : preU U i ≤ preU U j := by
  induction h with
  | refl => exact Nat.le_refl _
  | step _ ih => simp only [preU]; omega
theorem preU_at {U : Nat → Value} {i n : Nat} (h : i < n) : lenOf (U i) ≤ preU U n := by
  have h1 := preU_mono U (show i + 1 ≤ n from h)
  rw [preU] at h1
  omega
/-- What a law's argument of factors brings. -/
def ARow (w : World) (v : Value) (n : Nat) (U : Nat → Value) (ts : List Int) : Prop :=
  ts.length = n ∧ (∀ i, i < n → -9223372036854775808 ≤ el ts i ∧ el ts i ≤ 9223372036854775807) ∧ ∃ (a : Option Addr) (cap : Nat), v = .slice a n cap ∧ n ≤ cap ∧ cap ≤ maxLen ∧
    (0 < n → ∃ b o, a = some ⟨b, o, none⟩ ∧ b < w.heap.size ∧ ∀ i, i < n → w.cell? ⟨b, o + i * 2, none⟩ = some (U i) ∧ w.cell? ⟨b, o + i * 2 + 1, none⟩ = some (.int .i64 (el ts i))) ∧
    ∀ i, i < n → ∃ a len cap z, U i = .slice a len cap ∧ len ≤ maxLen ∧ IsRow .i64 w a len cap z
theorem ARow.reads {w : World} {v : Value} {n : Nat} {U : Nat → Value} {ts : List Int} (h : ARow w v n U ts) (hn : n + preU U n ≤ 1048576) :
    ∃ zss : List (List Int), zss.length = n ∧ FReads w v zss ts ∧ pre zss n = preU U n ∧ ∀ i, i < n → ∀ x ∈ row zss i, -9223372036854775808 ≤ x ∧ x ≤ 9223372036854775807 := by
  obtain ⟨h1, h2, a, cap, rfl, h3, h4, h5, h6⟩ := h
  have hch : ∀ i, i < n → ∃ Z : List Int, Z.length = lenOf (U i) ∧ (∀ x ∈ Z, -9223372036854775808 ≤ x ∧ x ≤ 9223372036854775807) ∧ Reads w (U i) Z := by
    intro i hi
    obtain ⟨a', len', cap', z', e, _, hr⟩ := h6 i hi
    have := preU_at (U := U) hi
    rw [e] at this ⊢
    obtain ⟨Z, e2, hz, hR⟩ := hr.reads (by simp only [lenOf] at this; omega)
    subst e2
    exact ⟨Z, rfl, hz, hR⟩
  obtain ⟨F, hF⟩ := Go.Deep.choose_lt hch
  have hrow : ∀ i, i < n → row ((List.range n).map F) i = F i := by
    intro i hi
    simp [row, List.getD_eq_getElem?_getD, List.getElem?_map, List.getElem?_range hi]
  have hlen : ((List.range n).map F).length = n := by simp
  refine ⟨(List.range n).map F, hlen, ⟨by rw [hlen, h1], by rw [hlen]; omega, by rw [hlen]; exact h2, a, cap, U, by rw [hlen], by rw [hlen]; exact h3, h4, by rw [hlen]; exact h5, fun i hi => ?_⟩, ?_, fun i hi => ?_⟩
  · rw [hlen] at hi
    rw [hrow i hi]; exact (hF i hi).2.2
  · have : ∀ k, k ≤ n → pre ((List.range n).map F) k = preU U k := by
      intro k
      induction k with
      | zero => intro _; rfl
      | succ k ih =>
        intro hk
        rw [pre, preU, ih (by omega), hrow k (by omega), (hF k (by omega)).1]
    exact this n (Nat.le_refl _)
  · rw [hrow i hi]; exact (hF i hi).2.1

/-! ### the laws' measure -/
def szV (left : Int) (n : Nat) : Int := if left - n < 0 then -1 else left - n
theorem szInt64S_any {a : Option Addr} {n cap : Nat} {left : Int} {w : World} (hn : n ≤ maxLen) (hl : 0 ≤ left ∧ left ≤ 1048576) :
    Calls Try.prog 27 #[.slice a n cap, .int .i64 left] w fun e w' => e = .returned (.int .i64 (szV left n)) ∧ w = w' := by
  unfold maxLen at hn
  by_cases h : left - n < 0
  all_goals go_enter Try.func27, Try.ntmps27
  all_goals go_wp2
  all_goals go_ret
  all_goals exact ⟨ret_int (by simp [szV]; omega), rfl⟩
theorem szFactor_any {a : Option Addr} {n cap : Nat} {t left : Int} {w : World} (hn : n ≤ maxLen) (hl : 0 ≤ left ∧ left ≤ 1048576) :
    Calls Try.prog 13 #[.agg #[.slice a n cap, .int .i64 t], .int .i64 left] w fun e w' => e = .returned (.int .i64 (szV left n)) ∧ Below w.heap.size w w' := by
  by_cases h : szV left n < 0
  · have hv : szV left n = -1 := by unfold szV at h ⊢; split <;> omega
    have HV := Lib.hid hv
    rw [hv] at h
    clear hv
    go_enter Try.func13, Try.ntmps13
    go_wp2_with (go_at_call 27; ((with_reducible refine (calls_int (szInt64S_any hn hl) HV.out).mono ?_); rintro e w' ⟨rfl, rfl⟩))
    go_ret
    exact ⟨ret_int HV.out.symm, below_box _⟩
  · have h2 : szV left n ≤ 1048576 := by unfold szV; split <;> omega
    obtain ⟨q, hq⟩ : ∃ q, szV left n = q := ⟨_, rfl⟩
    have HQ := Lib.hid hq
    rw [hq] at h h2
    clear hq
    go_enter Try.func13, Try.ntmps13
    go_wp2_with (go_at_call 27; ((with_reducible refine (calls_int (szInt64S_any hn hl) HQ.out).mono ?_); rintro e w' ⟨rfl, rfl⟩))
    go_ret
    exact ⟨ret_int HQ.out.symm, below_box _⟩

end Go.Proofs.Ytelpnpfmedlklaa
