/- A region that draws its order: first operations that only read or call functions that at most make memory, in any order; behind all of these the rest, one after the other. No program in sight. -/
import Derived.Test.YtcecmjnbhppocaaDoorQ
import Derived.StillTail
namespace Go.Proofs.YtcecmjnbhppocaaDoor
open Go.RowKit
set_option linter.unusedVariables false
set_option linter.unusedSimpArgs false

section
variable {P : Program} {ops : Array Oper} {C : World → Prop} {Q : Exit → Act → World → Prop}

theorem wpAny_more {md : Region.Mode} : ∀ (g : Nat) (listed : Array Bool) (a : Act) (w : World), wpAny P md ops Q g listed a w → wpAny P md ops Q (g + 1) listed a w
  | 0, listed, a, w, h => ⟨fun _ => h.2, fun i hi => by rw [h.1] at hi; cases hi⟩
  | g + 1, listed, a, w, h => ⟨h.1, fun i hi => wpOp_mono (fun a' w' h' => wpAny_more g _ a' w' h') (h.2 i hi)⟩
theorem wpAny_fuel {md : Region.Mode} {g : Nat} {listed : Array Bool} {a : Act} {w : World} (h : wpAny P md ops Q g listed a w) : ∀ f, wpAny P md ops Q (f + g) listed a w
  | 0 => by rw [Nat.zero_add]; exact h
  | f + 1 => by rw [show f + 1 + g = f + g + 1 by omega]; exact wpAny_more _ _ _ _ (wpAny_fuel h f)

/-- What is asked of the region's list, read off the list: of each head its guard and what it waits for lie ahead of it; each later one waits for all heads. -/
def headOk (ops : Array Oper) (n : Nat) : Bool :=
  (List.range n).all fun i => ((ops[i]?).map fun o => (o.guard.all fun p => decide (p.1 < n)) && o.after.all fun e => !Region.binds .any e || decide (e.on < i)).getD false
def tailWaits (ops : Array Oper) (n : Nat) : Bool :=
  (List.range ops.size).all fun t => decide (t < n) || (List.range n).all fun i => Region.waitsFor .any ops t i

/-- The heads' own record of what is done, and the region's. -/
structure Rel (ops : Array Oper) (n : Nat) (listed listed' : Array Bool) : Prop where
  size : listed.size = ops.size
  size' : listed'.size = n
  same : ∀ i, i < n → listed'[i]? = listed[i]?
  tail : ∀ t, n ≤ t → t < ops.size → listed[t]? = some false

theorem Rel.getD {n : Nat} {listed listed' : Array Bool} (r : Rel ops n listed listed') {i : Nat} (hi : i < n) (d : Bool) : listed'.getD i d = listed.getD i d := by
  rw [Array.getD_eq_getD_getElem?, Array.getD_eq_getD_getElem?, r.same i hi]
theorem Rel.set {n i : Nat} {listed listed' : Array Bool} (r : Rel ops n listed listed') (hi : i < n) : Rel ops n (listed.setIfInBounds i true) (listed'.setIfInBounds i true) := by
  refine ⟨by simp [r.size], by simp [r.size'], fun j hj => ?_, fun t ht ht' => ?_⟩
  · by_cases hij : i = j
    · subst hij
      have h1 := r.same i hi
      rw [Array.getElem?_setIfInBounds, Array.getElem?_setIfInBounds, if_pos rfl, if_pos rfl]
      by_cases h : i < listed.size
      · have h2 : i < listed'.size := by rw [r.size']; exact hi
        rw [if_pos h, if_pos h2]
      · have h2 : listed[i]? = none := Array.getElem?_eq_none (by omega)
        rw [h2] at h1
        have h3 : ¬ i < listed'.size := by intro h4; rw [Array.getElem?_eq_getElem h4] at h1; cases h1
        rw [if_neg h, if_neg h3]
    · rw [Array.getElem?_setIfInBounds_ne hij, Array.getElem?_setIfInBounds_ne hij]; exact r.same j hj
  · rw [Array.getElem?_setIfInBounds_ne (by omega)]; exact r.tail t ht ht'

theorem heads_at {n : Nat} (hn : n ≤ ops.size) {i : Nat} (hi : i < n) : (ops.extract 0 n)[i]? = ops[i]? := by
  rw [Array.getElem?_extract, if_pos (by omega), Nat.zero_add]

theorem head_spec {n : Nat} (h : headOk ops n = true) {i : Nat} (hi : i < n) : ∃ o, ops[i]? = some o ∧ (∀ p, o.guard = some p → p.1 < n) ∧ ∀ e ∈ o.after, Region.binds .any e = true → e.on < i := by
  have h1 := List.all_eq_true.1 h i (List.mem_range.2 hi)
  cases ho : ops[i]? with
  | none => rw [ho] at h1; cases h1
  | some o =>
    rw [ho] at h1
    simp only [Option.map_some, Option.getD_some, Bool.and_eq_true] at h1
    refine ⟨o, rfl, fun p hp => ?_, fun e he hb => ?_⟩
    · have := h1.1; rw [hp] at this; simpa using this
    · have := Array.all_eq_true_iff_forall_mem.1 h1.2 e he
      simpa [hb] using this

/-- Where a head is not done yet, one may come up, and no later operation may. -/
theorem some_ready {n : Nat} (hn : n ≤ ops.size) (hh : headOk ops n = true) {listed listed' : Array Bool} (r : Rel ops n listed listed') :
    ∀ (i : Nat), i < n → listed.getD i true = false → (∀ j, j < i → listed.getD j true ≠ false) → i ∈ Region.ready .any ops listed := by
  intro i hi hu hmin
  obtain ⟨o, ho, _, haft⟩ := head_spec hh hi
  refine mem_ready.2 ⟨hu, o, ho, fun e he hb => ?_⟩
  have h1 := haft e he hb
  have h2 := hmin e.on h1
  have h3 : e.on < listed.size := by rw [r.size]; omega
  rw [Array.getD_eq_getD_getElem?, Array.getElem?_eq_getElem h3] at h2 ⊢
  simpa using h2
theorem least_of {p : Nat → Prop} [DecidablePred p] : ∀ (n : Nat), (∃ i, i < n ∧ p i) → ∃ i, i < n ∧ p i ∧ ∀ j, j < i → ¬ p j
  | 0, ⟨i, hi, _⟩ => by omega
  | n + 1, ⟨i, hi, hp⟩ => by
    by_cases h : ∃ i, i < n ∧ p i
    · obtain ⟨k, hk, hpk, hmin⟩ := least_of n h
      exact ⟨k, by omega, hpk, hmin⟩
    · exact ⟨i, hi, hp, fun j hj hpj => h ⟨j, by omega, hpj⟩⟩
theorem ready_head {n : Nat} (hn : n ≤ ops.size) (ht : tailWaits ops n = true) {listed listed' : Array Bool} (r : Rel ops n listed listed') {i0 : Nat} (hi0 : i0 < n) (hu : listed.getD i0 true = false)
    {i : Nat} (hi : i ∈ Region.ready .any ops listed) : i < n := by
  apply Decidable.byContradiction
  intro hin
  obtain ⟨_, o, ho, hall⟩ := mem_ready.1 hi
  have hlt : i < ops.size := (Array.getElem?_eq_some_iff.1 ho).1
  have h1 := List.all_eq_true.1 ht i (List.mem_range.2 hlt)
  rw [decide_eq_false hin, Bool.false_or] at h1
  have h2 := List.all_eq_true.1 h1 i0 (List.mem_range.2 hi0)
  obtain ⟨o', ho', e, he, hb, hon⟩ := Region.waitsFor_spec h2
  rw [ho] at ho'; cases ho'
  have h3 := hall e he hb
  rw [hon] at h3
  have h4 : i0 < listed.size := by rw [r.size]; omega
  rw [Array.getD_eq_getD_getElem?, Array.getElem?_eq_getElem h4] at h3 hu
  simp at h3 hu
  rw [h3] at hu
  cases hu
theorem ready_same {n : Nat} (hn : n ≤ ops.size) (hh : headOk ops n = true) {listed listed' : Array Bool} (r : Rel ops n listed listed') {i : Nat} (hin : i < n) :
    i ∈ Region.ready .any (ops.extract 0 n) listed' ↔ i ∈ Region.ready .any ops listed := by
  obtain ⟨o, ho, _, haft⟩ := head_spec hh hin
  rw [mem_ready, mem_ready, heads_at hn hin, r.getD hin]
  constructor
  · rintro ⟨h1, o', ho', h2⟩
    refine ⟨h1, o', ho', fun e he hb => ?_⟩
    rw [ho] at ho'; cases ho'
    rw [← r.getD (show e.on < n by have := haft e he hb; omega)]; exact h2 e he hb
  · rintro ⟨h1, o', ho', h2⟩
    refine ⟨h1, o', ho', fun e he hb => ?_⟩
    rw [ho] at ho'; cases ho'
    rw [r.getD (show e.on < n by have := haft e he hb; omega)]; exact h2 e he hb
theorem qOp_same {n : Nat} (hn : n ≤ ops.size) (hh : headOk ops n = true) {i : Nat} (hin : i < n) {K : Act → Prop} {a : Act} (h : qOp P (ops.extract 0 n) C i K a) : qOp P ops C i K a := by
  obtain ⟨o, ho, hg, _⟩ := head_spec hh hin
  unfold qOp at *
  rw [heads_at hn hin] at h
  rw [ho] at h ⊢
  simp only at h ⊢
  have e : Region.wanted o (yielded (ops.extract 0 n) a.tmps) = Region.wanted o (yielded ops a.tmps) := by
    unfold Region.wanted
    cases hgd : o.guard with
    | none => rfl
    | some p =>
      have := hg p hgd
      simp only [yielded, heads_at hn this]
  rw [e] at h
  exact h

theorem heads_then {n g : Nat} (hn : n ≤ ops.size) (hh : headOk ops n = true) (ht : tailWaits ops n = true) {Qa : Act → Prop}
    (hT : ∀ (listed : Array Bool) (a : Act) (w : World), listed.size = ops.size → (∀ i, i < n → listed[i]? = some true) → (∀ t, n ≤ t → t < ops.size → listed[t]? = some false) → C w → Qa a → wpAny P .any ops Q g listed a w) :
    ∀ (f : Nat) (listed listed' : Array Bool) (a : Act) (w : World), Rel ops n listed listed' → C w → wpAnyQ P .any (ops.extract 0 n) C Qa f listed' a → wpAny P .any ops Q (f + g) listed a w := by
  intro f
  have done : ∀ (listed listed' : Array Bool), Rel ops n listed listed' → Region.ready .any (ops.extract 0 n) listed' = [] → ∀ i, i < n → listed[i]? = some true := by
    intro listed listed' r h0 i hi
    have hno : ¬ ∃ i, i < n ∧ listed.getD i true = false := by
      intro hex
      obtain ⟨k, hk, hpk, hmin⟩ := least_of n hex
      have h1 := some_ready hn hh r k hk hpk hmin
      have h2 := (ready_same hn hh r hk).2 h1
      rw [h0] at h2; cases h2
    have h3 : i < listed.size := by rw [r.size]; omega
    have h4 : listed.getD i true ≠ false := fun h => hno ⟨i, hi, h⟩
    rw [Array.getD_eq_getD_getElem?, Array.getElem?_eq_getElem h3] at h4
    rw [Array.getElem?_eq_getElem h3]
    simpa using h4
  induction f with
  | zero =>
    intro listed listed' a w r hC h
    rw [Nat.zero_add]
    exact hT listed a w r.size (done _ _ r h.1) r.tail hC h.2
  | succ f ih =>
    intro listed listed' a w r hC h
    by_cases h0 : Region.ready .any (ops.extract 0 n) listed' = []
    · exact wpAny_fuel (hT listed a w r.size (done _ _ r h0) r.tail hC (h.1 h0)) (f + 1)
    · have hex : ∃ i, i < n ∧ listed.getD i true = false := by
        obtain ⟨i, hi⟩ := List.exists_mem_of_ne_nil _ h0
        obtain ⟨hu, o, ho, _⟩ := mem_ready.1 hi
        have hin : i < n := by
          have := (Array.getElem?_eq_some_iff.1 ho).1
          rw [Array.size_extract] at this; omega
        exact ⟨i, hin, by rw [← r.getD hin]; exact hu⟩
      obtain ⟨k, hk, hpk, hmin⟩ := least_of n hex
      have hkr := some_ready hn hh r k hk hpk hmin
      rw [show f + 1 + g = f + g + 1 by omega]
      refine ⟨fun he => (by rw [he] at hkr; cases hkr), fun i hi => ?_⟩
      have hin := ready_head hn ht r hk hpk hi
      exact wpOp_of_qOp hC (fun a' w' hC' hK => ih _ _ a' w' (r.set hin) hC' hK) (qOp_same hn hh hin (h.2 i ((ready_same hn hh r hin).2 hi)))
end

/-- The whole check of a region's list. -/
def tailOk (l : List Oper) (n : Nat) : Bool :=
  decide (n ≤ l.length) && Region.lexB .any (l.toArray.extract 0 n) && headOk l.toArray n && tailWaits l.toArray n && Region.seqB .any l.toArray (l.length - n) n (Array.replicate n true ++ Array.replicate (l.length - n) false)

theorem wp_region_wext_tail {P : Program} {id : Nat} {Q : Exit → Act → World → Prop} {a : Act} {w : World} {l : List Oper} (n : Nat) (hm : P.follows .mixedOrders = true) (hB : tailOk l n = true)
    (h : wpQuiet P (l.take n).toArray (fun w' => ∃ x, w' = wext w x) (fun a' => ∀ w', (∃ x, w' = wext w x) → wpList P l.toArray Q (l.drop n) a' w') (l.take n) a) : (Code.region id l.toArray true).wp P Q a w := by
  simp only [tailOk, Bool.and_eq_true, decide_eq_true_eq] at hB
  obtain ⟨⟨⟨⟨hn, hlex⟩, hh⟩, ht⟩, hseq⟩ := hB
  have hx : (l.take n).toArray = l.toArray.extract 0 n := by simp [List.extract_toArray, List.extract]
  rw [hx] at h
  refine wp_region_any hm ?_
  simp only [Region.lexB, Bool.and_eq_true] at hlex
  have hlen : (l.take n).length = n := by simp; omega
  have hsz : (l.toArray.extract 0 n).size = n := by simp; omega
  have H := wpAnyQ_lex (md := .any) (C := fun w' => ∃ x, w' = wext w x) hlex.1 (l.take n) 0 (Array.replicate n false) a (fun j => by rw [← hx]; simp) (by rw [hlen]; rw [hsz] at hlex; exact hlex.2) h
  rw [hlen] at H
  have K := heads_then (P := P) (Q := Q) (g := l.length - n) (ops := l.toArray) (C := fun w' => ∃ x, w' = wext w x) (by simpa using hn) hh ht
    (fun listed a' w' h1 h2 h3 hC hQ => by
      have he : listed = Array.replicate n true ++ Array.replicate (l.length - n) false := by
        apply Array.ext_getElem?
        intro i
        by_cases hi : i < n
        · rw [h2 i hi, Array.getElem?_append_left (by simpa using hi)]; simp [hi]
        · by_cases hi2 : i < l.length
          · rw [h3 i (by omega) (by simpa using hi2), Array.getElem?_append_right (by rw [Array.size_replicate]; omega), Array.size_replicate, Array.getElem?_replicate, if_pos (by omega)]
          · rw [Array.getElem?_eq_none (by rw [h1]; simp; omega), Array.getElem?_eq_none (by rw [Array.size_append, Array.size_replicate, Array.size_replicate]; omega)]
      subst he
      have := wpAny_of_seq (P := P) (md := .any) (Q' := Q) (ops := l.toArray) (l.drop n) n _ a' w' (fun j => by simp [List.getElem?_drop]) (by rw [List.length_drop]; exact hseq) (hQ w' hC)
      rwa [List.length_drop] at this)
    n (Array.replicate l.length false) (Array.replicate n false) a { w with drawn := w.drawn + 1 }
    ⟨by simp, by simp, fun i hi => (by rw [Array.getElem?_replicate, Array.getElem?_replicate, if_pos hi, if_pos (Nat.lt_of_lt_of_le hi hn)]), fun t ht ht' => (by rw [Array.getElem?_replicate, if_pos (by simpa using ht')])⟩ ⟨⟨#[], w.drawn + 1⟩, by simp [wext]⟩ H
  rw [show n + (l.length - n) = l.toArray.size by simp; omega] at K
  simpa using K

end Go.Proofs.YtcecmjnbhppocaaDoor
