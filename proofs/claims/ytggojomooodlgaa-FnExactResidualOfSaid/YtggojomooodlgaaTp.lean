/- A region that draws its order: of each of its first operations is told what holds of its value, and goes on holding as memory grows; behind them the rest in one order. No program in sight. -/
import Derived.Test.YtggojomooodlgaaT
namespace Go.Proofs.Ytggojomooodlgaa
open Go.RowKit
set_option linter.unusedVariables false
set_option linter.unusedSimpArgs false

section
variable {P : Program} {ops : Array Oper} {Q : Exit → Act → World → Prop}

/-! ### how many of the first n are still to come -/
def cntF (listed : Array Bool) : Nat → Nat
  | 0 => 0
  | n + 1 => cntF listed n + (if listed.getD n true = false then 1 else 0)
theorem getD_setT {listed : Array Bool} {i j : Nat} (h : i ≠ j) (d : Bool) : (listed.setIfInBounds i true).getD j d = listed.getD j d := by
  rw [Array.getD_eq_getD_getElem?, Array.getD_eq_getD_getElem?, Array.getElem?_setIfInBounds_ne h]
theorem getD_setS {listed : Array Bool} {i : Nat} (h : i < listed.size) (d : Bool) : (listed.setIfInBounds i true).getD i d = true := by
  rw [Array.getD_eq_getD_getElem?, Array.getElem?_setIfInBounds, if_pos rfl, if_pos h]; rfl
theorem cntF_out {listed : Array Bool} {i : Nat} : ∀ n, n ≤ i → cntF (listed.setIfInBounds i true) n = cntF listed n
  | 0, _ => rfl
  | n + 1, h => by rw [cntF, cntF, cntF_out n (by omega), getD_setT (by omega)]
theorem cntF_in {listed : Array Bool} {i : Nat} (hs : i < listed.size) (hl : listed.getD i true = false) : ∀ n, i < n → cntF (listed.setIfInBounds i true) n + 1 = cntF listed n
  | 0, h => by omega
  | n + 1, h => by
    by_cases e : i = n
    · subst e
      rw [cntF, cntF, cntF_out i (Nat.le_refl _), getD_setS hs, hl]; simp
    · have := cntF_in hs hl n (by omega)
      rw [cntF, cntF, getD_setT e]; omega
theorem cntF_zero {listed : Array Bool} : ∀ n, cntF listed n = 0 → ∀ i, i < n → listed.getD i true = true
  | 0, _, i, hi => by omega
  | n + 1, h, i, hi => by
    rw [cntF] at h
    by_cases e : i = n
    · subst e
      cases hg : listed.getD i true with
      | true => rfl
      | false => rw [hg] at h; simp at h
    · exact cntF_zero n (by omega) i (by omega)
theorem cntF_le (listed : Array Bool) : ∀ n, cntF listed n ≤ n
  | 0 => Nat.le_refl _
  | n + 1 => by have := cntF_le listed n; rw [cntF]; split <;> omega

/-! ### an invariant of the first operations -/
theorem heads_inv {n g : Nat} (hn : n ≤ ops.size) (hh : headOk ops n = true) (ht : tailWaits ops n = true) {Inv : Array Bool → Act → World → Prop}
    (hI : ∀ (listed : Array Bool) (a : Act) (w : World) (i : Nat), listed.size = ops.size → Inv listed a w → i < n → listed[i]? = some false → i ∈ Region.ready .any ops listed → wpOp P ops Q i (Inv (listed.setIfInBounds i true)) a w)
    (hT : ∀ (listed : Array Bool) (a : Act) (w : World), listed.size = ops.size → (∀ i, i < n → listed[i]? = some true) → (∀ t, n ≤ t → t < ops.size → listed[t]? = some false) → Inv listed a w → wpAny P .any ops Q g listed a w) :
    ∀ (f : Nat) (listed : Array Bool) (a : Act) (w : World), listed.size = ops.size → (∀ t, n ≤ t → t < ops.size → listed[t]? = some false) → cntF listed n ≤ f → Inv listed a w → wpAny P .any ops Q (f + g) listed a w := by
  have hdone : ∀ (listed : Array Bool), listed.size = ops.size → cntF listed n = 0 → ∀ i, i < n → listed[i]? = some true := by
    intro listed hs h0 i hi
    have h1 := cntF_zero n h0 i hi
    have h2 : i < listed.size := by omega
    rw [Array.getD_eq_getD_getElem?, Array.getElem?_eq_getElem h2] at h1
    rw [Array.getElem?_eq_getElem h2]
    simpa using h1
  intro f
  induction f with
  | zero =>
    intro listed a w hs htl hc hi
    rw [Nat.zero_add]
    exact hT listed a w hs (hdone listed hs (by omega)) htl hi
  | succ f ih =>
    intro listed a w hs htl hc hi
    by_cases h0 : cntF listed n = 0
    · exact wpAny_fuel (hT listed a w hs (hdone listed hs h0) htl hi) (f + 1)
    · have r : Rel ops n listed (listed.extract 0 n) := ⟨hs, by simp; omega, fun i hin => by rw [Array.getElem?_extract, if_pos (by omega), Nat.zero_add], htl⟩
      have hex : ∃ i, i < n ∧ listed.getD i true = false := by
        apply Classical.byContradiction
        intro hno
        have hall : ∀ m, m ≤ n → cntF listed m = 0 := by
          intro m
          induction m with
          | zero => intro _; rfl
          | succ m ihm =>
            intro hm
            rw [cntF, ihm (by omega), if_neg]
            intro hf
            exact hno ⟨m, by omega, hf⟩
        exact h0 (hall n (Nat.le_refl _))
      obtain ⟨k, hk, hpk, hmin⟩ := least_of n hex
      have hkr := some_ready hn hh r k hk hpk hmin
      rw [show f + 1 + g = f + g + 1 by omega]
      refine ⟨fun he => (by rw [he] at hkr; cases hkr), fun i hir => ?_⟩
      have hin := ready_head hn ht r hk hpk hir
      have hlt : i < listed.size := by omega
      have hf : listed.getD i true = false := (mem_ready.1 hir).1
      have hf2 : listed[i]? = some false := by
        rw [Array.getD_eq_getD_getElem?, Array.getElem?_eq_getElem hlt] at hf
        rw [Array.getElem?_eq_getElem hlt]
        simpa using hf
      refine wpOp_mono (fun a' w' h' => ih _ a' w' (by simpa using hs) (fun t h1 h2 => by rw [Array.getElem?_setIfInBounds_ne (by omega)]; exact htl t h1 h2) ?_ h') (hI listed a w i hs hi hin hf2 hir)
      have := cntF_in hlt hf n hin
      omega

/-! ### the slots -/
theorem put_put (a : Act) (d : Option Tmp) (x y : Value) : (a.put d x).put d y = a.put d y := by
  cases d with
  | none => rfl
  | some d => simp [Act.put]
theorem put_comm (a : Act) {d e : Option Tmp} (h : ∀ k, d = some k → e ≠ some k) (x y : Value) : (a.put d x).put e y = (a.put e y).put d x := by
  cases d with
  | none => rfl
  | some d =>
    cases e with
    | none => rfl
    | some e =>
      have hne : d ≠ e := fun he => h d rfl (by rw [he])
      simp only [Act.put]
      rw [Array.setIfInBounds_comm _ _ hne]
def puts (a : Act) : List (Option Tmp) → Nat → (Nat → Value) → Act
  | [], _, _ => a
  | d :: ds, k, X => puts (a.put d (X k)) ds (k + 1) X
def upd (X : Nat → Value) (i : Nat) (v : Value) : Nat → Value := fun j => if j = i then v else X j
def apartB : List (Option Tmp) → Bool
  | [] => true
  | d :: ds => ds.all (fun e => d.all fun k => e != some k) && apartB ds
theorem puts_past {X : Nat → Value} {i : Nat} {v : Value} : ∀ (ds : List (Option Tmp)) (a : Act) (k : Nat), i < k → puts a ds k (upd X i v) = puts a ds k X
  | [], a, k, h => rfl
  | d :: ds, a, k, h => by
    rw [puts, puts, puts_past ds _ (k + 1) (by omega)]
    have : upd X i v k = X k := by unfold upd; rw [if_neg (by omega)]
    rw [this]
theorem puts_comm {X : Nat → Value} {d : Option Tmp} {v : Value} : ∀ (ds : List (Option Tmp)) (a : Act) (k : Nat), (ds.all (fun e => d.all fun t => e != some t)) = true → (puts a ds k X).put d v = puts (a.put d v) ds k X
  | [], a, k, h => rfl
  | e :: ds, a, k, h => by
    rw [List.all_cons, Bool.and_eq_true] at h
    rw [puts, puts, puts_comm ds _ (k + 1) h.2]
    congr 1
    refine put_comm a (fun t ht => ?_) _ _
    subst ht
    intro hd
    have := h.1
    rw [hd] at this
    simp at this
theorem puts_set {X : Nat → Value} {v : Value} : ∀ (ds : List (Option Tmp)) (a : Act) (k i : Nat) (d : Option Tmp), apartB ds = true → ds[i]? = some d → (puts a ds k X).put d v = puts a ds k (upd X (k + i) v)
  | [], a, k, i, d, h, hd => by simp at hd
  | e :: ds, a, k, 0, d, h, hd => by
    simp at hd
    subst hd
    rw [apartB, Bool.and_eq_true] at h
    rw [puts, puts, puts_comm ds _ _ h.1, put_put, Nat.add_zero, puts_past ds _ (k + 1) (by omega)]
    have : upd X k v k = v := by unfold upd; rw [if_pos rfl]
    simp only [Nat.add_zero] at *
    rw [this]
  | e :: ds, a, k, i + 1, d, h, hd => by
    rw [apartB, Bool.and_eq_true] at h
    rw [puts, puts, puts_set ds _ (k + 1) i d h.2 (by simpa using hd)]
    have : upd X (k + (i + 1)) v k = X k := by unfold upd; rw [if_neg (by omega)]
    rw [this, show k + 1 + i = k + (i + 1) by omega]

theorem put_self (a : Act) (d : Option Tmp) : ∃ v, a.put d v = a := by
  cases d with
  | none => exact ⟨default, rfl⟩
  | some d =>
    by_cases h : d < a.tmps.size
    · refine ⟨a.tmps[d], ?_⟩
      cases a
      simp only [Act.put]
      congr 1
      apply Array.ext_getElem?
      intro i
      by_cases e : d = i
      · subst e
        rw [Array.getElem?_setIfInBounds, if_pos rfl, if_pos h, Array.getElem?_eq_getElem h]
      · rw [Array.getElem?_setIfInBounds_ne e]
    · refine ⟨default, ?_⟩
      cases a
      simp only [Act.put]
      rw [Array.setIfInBounds_eq_of_size_le (by simpa using h)]
theorem puts_self : ∀ (ds : List (Option Tmp)) (a : Act) (k : Nat), ∃ X, puts a ds k X = a
  | [], a, k => ⟨fun _ => default, rfl⟩
  | d :: ds, a, k => by
    obtain ⟨X, hX⟩ := puts_self ds a (k + 1)
    obtain ⟨v, hv⟩ := put_self a d
    refine ⟨upd X k v, ?_⟩
    have : upd X k v k = v := by unfold upd; rw [if_pos rfl]
    rw [puts, this, hv, puts_past ds _ _ (by omega), hX]

/-- The goal of one operation, behind a name. -/
structure OpWp (P : Program) (o : Oper) (a : Act) (w : World) (K : Act → World → Prop) (Q : Exit → Act → World → Prop) : Prop where
  out : o.wp P a w K Q

structure ListWp (P : Program) (ops : Array Oper) (Q : Exit → Act → World → Prop) (l : List Oper) (a : Act) (w : World) : Prop where
  out : wpList P ops Q l a w

/-! ### the law -/
/-- The i-th operation waits for the j-th. -/
def depB (l : List Oper) (i j : Nat) : Bool := ((l[i]?).map fun o => o.after.any fun e => Region.binds .any e && decide (e.on = j)).getD false
def phiAt (φs : List (Value → World → Prop)) (i : Nat) : Value → World → Prop := φs.getD i fun _ _ => True
def postsOk (l : List Oper) (n : Nat) : Bool :=
  decide (n ≤ l.length) && headOk l.toArray n && tailWaits l.toArray n && Region.seqB .any l.toArray (l.length - n) n (Array.replicate n true ++ Array.replicate (l.length - n) false) && (l.take n).all (fun o => o.guard.isNone) && apartB ((l.take n).map (·.dst))
/-- What is asked of each operation. -/
def stepsAll (P : Program) (Q : Exit → Act → World → Prop) (w : World) (l : List Oper) (φs : List (Value → World → Prop)) (A : (Nat → Value) → Act) : List Oper → Nat → Prop
  | [], _ => True
  | o :: os, i => (∀ (X : Nat → Value) (w' : World) (K : Act → World → Prop), Below w.heap.size w w' → (∀ j, depB l i j = true → phiAt φs j (X j) w') →
      (∀ v w'', Below w'.heap.size w' w'' → phiAt φs i v w'' → K ((A X).put o.dst v) w'') → OpWp P o (A X) w' K Q) ∧ stepsAll P Q w l φs A os (i + 1)
theorem stepsAll_at {w : World} {l : List Oper} {φs : List (Value → World → Prop)} {A : (Nat → Value) → Act} : ∀ (os : List Oper) (k i : Nat) (o : Oper), stepsAll P Q w l φs A os k → os[i]? = some o →
    ∀ (X : Nat → Value) (w' : World) (K : Act → World → Prop), Below w.heap.size w w' → (∀ j, depB l (k + i) j = true → phiAt φs j (X j) w') →
      (∀ v w'', Below w'.heap.size w' w'' → phiAt φs (k + i) v w'' → K ((A X).put o.dst v) w'') → OpWp P o (A X) w' K Q
  | [], k, i, o, h, ho => by simp at ho
  | o' :: os, k, 0, o, h, ho => by
    simp at ho
    subst ho
    exact h.1
  | o' :: os, k, i + 1, o, h, ho => by
    have := stepsAll_at os (k + 1) i o h.2 (by simpa using ho)
    rw [show k + 1 + i = k + (i + 1) by omega] at this
    exact this

theorem wp_region_posts {id : Nat} {a : Act} {w : World} {l : List Oper} (n : Nat) (φs : List (Value → World → Prop)) (hm : P.follows .mixedOrders = true) (hB : postsOk l n = true)
    (hst : ∀ φ ∈ φs, ∀ v w1 w2, φ v w1 → Below w1.heap.size w1 w2 → φ v w2)
    (hs : stepsAll P Q w l φs (puts a ((l.take n).map (·.dst)) 0) (l.take n) 0)
    (hT : ∀ X w', Below w.heap.size w w' → (∀ j, j < n → phiAt φs j (X j) w') → ListWp P l.toArray Q (l.drop n) (puts a ((l.take n).map (·.dst)) 0 X) w') :
    (Code.region id l.toArray true).wp P Q a w := by
  simp only [postsOk, Bool.and_eq_true, decide_eq_true_eq] at hB
  obtain ⟨⟨⟨⟨⟨hn, hh⟩, ht⟩, hseq⟩, hgd⟩, hap⟩ := hB
  refine wp_region_any hm ?_
  obtain ⟨X0, h0⟩ := puts_self ((l.take n).map (·.dst)) a 0
  have hphi : ∀ i v w1 w2, phiAt φs i v w1 → Below w1.heap.size w1 w2 → phiAt φs i v w2 := by
    intro i v w1 w2 h1 h2
    unfold phiAt at *
    rw [List.getD_eq_getElem?_getD] at *
    cases hi : φs[i]? with
    | none => rw [hi] at h1; exact trivial
    | some φ =>
      rw [hi] at h1
      exact hst φ (List.mem_of_getElem? hi) v w1 w2 h1 h2
  have K := heads_inv (P := P) (Q := Q) (ops := l.toArray) (n := n) (g := l.length - n) (by simpa using hn) hh ht
    (Inv := fun listed a' w' => ∃ X, a' = puts a ((l.take n).map (·.dst)) 0 X ∧ Below w.heap.size w w' ∧ ∀ j, j < n → listed[j]? = some true → phiAt φs j (X j) w')
    (fun listed a' w' i hsz ⟨X, hX, hb, hf⟩ hin hfl hr => by
      subst hX
      have hil : i < l.length := by omega
      have ho : (l.take n)[i]? = some l[i] := by rw [List.getElem?_take, if_pos hin, List.getElem?_eq_getElem hil]
      have ho2 : l.toArray[i]? = some l[i] := by simp [hil]
      have hg : l[i].guard = none := by
        have := List.all_eq_true.1 hgd _ (List.mem_of_getElem? ho)
        simpa using this
      unfold wpOp
      rw [ho2]
      simp only
      rw [if_pos (by unfold Region.wanted; rw [hg])]
      left
      refine (stepsAll_at (l.take n) 0 i _ hs ho X w' _ hb (fun j hd => ?_) (fun v w'' hb2 hv => ?_)).out
      · rw [Nat.zero_add] at hd
        unfold depB at hd
        rw [List.getElem?_eq_getElem hil] at hd
        simp only [Option.map_some, Option.getD_some, Array.any_eq_true] at hd
        obtain ⟨q, hq, hd⟩ := hd
        rw [Bool.and_eq_true, decide_eq_true_eq] at hd
        obtain ⟨hu, o', ho', hall⟩ := mem_ready.1 hr
        rw [ho2] at ho'
        cases ho'
        have h1 := hall l[i].after[q] (by simp) hd.1
        obtain ⟨o', hq0, _, hq2⟩ := head_spec hh hin
        rw [ho2] at hq0
        cases hq0
        have hlt := hq2 l[i].after[q] (by simp) hd.1
        rw [hd.2] at h1 hlt
        refine hf j (by omega) ?_
        have hjs : j < listed.size := by have : l.toArray.size = l.length := by simp
                                         omega
        rw [Array.getD_eq_getD_getElem?, Array.getElem?_eq_getElem hjs] at h1
        rw [Array.getElem?_eq_getElem hjs]
        simpa using h1
      · rw [Nat.zero_add] at hv
        refine ⟨upd X i v, ?_, hb.trans (hb2.mono hb.size), fun j hj hlj => ?_⟩
        · have := puts_set (X := X) (v := v) ((l.take n).map (·.dst)) a 0 i l[i].dst hap (by rw [List.getElem?_map, ho]; rfl)
          rw [Nat.zero_add] at this
          exact this
        · by_cases e : j = i
          · subst e
            unfold upd; rw [if_pos rfl]; exact hv
          · rw [Array.getElem?_setIfInBounds_ne (fun h => e h.symm)] at hlj
            unfold upd; rw [if_neg e]
            exact hphi _ _ _ _ (hf j hj hlj) hb2)
    (fun listed a' w' h1 h2 h3 ⟨X, hX, hb, hf⟩ => by
      subst hX
      have he : listed = Array.replicate n true ++ Array.replicate (l.length - n) false := by
        apply Array.ext_getElem?
        intro i
        by_cases hi : i < n
        · rw [h2 i hi, Array.getElem?_append_left (by simpa using hi)]; simp [hi]
        · by_cases hi2 : i < l.length
          · rw [h3 i (by omega) (by simpa using hi2), Array.getElem?_append_right (by rw [Array.size_replicate]; omega), Array.size_replicate, Array.getElem?_replicate, if_pos (by omega)]
          · rw [Array.getElem?_eq_none (by rw [h1]; simp; omega), Array.getElem?_eq_none (by rw [Array.size_append, Array.size_replicate, Array.size_replicate]; omega)]
      have hX := hT X w' hb (fun j hj => hf j hj (h2 j hj))
      subst he
      have := wpAny_of_seq (P := P) (md := .any) (Q' := Q) (ops := l.toArray) (l.drop n) n _ _ w' (fun j => by simp [List.getElem?_drop]) (by rw [List.length_drop]; exact hseq) hX.out
      rwa [List.length_drop] at this)
    n (Array.replicate l.length false) a { w with drawn := w.drawn + 1 } (by simp) (fun t h1 h2 => by rw [Array.getElem?_replicate, if_pos (by simpa using h2)]) (cntF_le _ n)
    ⟨X0, h0.symm, ⟨rfl, rfl, rfl, Nat.le_refl _, fun _ _ => rfl⟩, fun j hj hlj => by rw [Array.getElem?_replicate] at hlj; split at hlj <;> simp at hlj⟩
  rw [show n + (l.length - n) = l.toArray.size by simp; omega] at K
  simpa using K
/-! ### with one store among them -/
def keepAt (keep : List Bool) (j : Nat) : Bool := keep.getD j false
/-- What is told of the j-th to the i-th; s: the store. -/
def toldB (l : List Oper) (s : Nat) (keep : List Bool) (i j : Nat) : Bool := depB l i j && (j != s) && (depB l s i || keepAt keep j)
def stepsBut (P : Program) (Q : Exit → Act → World → Prop) (w : World) (l : List Oper) (s : Nat) (keep : List Bool) (φs : List (Value → World → Prop)) (A : (Nat → Value) → Act) : List Oper → Nat → Prop
  | [], _ => True
  | o :: os, i => (if i = s then True else ∀ (X : Nat → Value) (w' : World) (K : Act → World → Prop), Below w.heap.size w w' → (∀ j, toldB l s keep i j = true → phiAt φs j (X j) w') →
      (∀ v w'', Below w'.heap.size w' w'' → phiAt φs i v w'' → K ((A X).put o.dst v) w'') → OpWp P o (A X) w' K Q) ∧ stepsBut P Q w l s keep φs A os (i + 1)
theorem stepsBut_at {w : World} {l : List Oper} {s : Nat} {keep : List Bool} {φs : List (Value → World → Prop)} {A : (Nat → Value) → Act} : ∀ (os : List Oper) (k i : Nat) (o : Oper), stepsBut P Q w l s keep φs A os k → os[i]? = some o → k + i ≠ s →
    ∀ (X : Nat → Value) (w' : World) (K : Act → World → Prop), Below w.heap.size w w' → (∀ j, toldB l s keep (k + i) j = true → phiAt φs j (X j) w') →
      (∀ v w'', Below w'.heap.size w' w'' → phiAt φs (k + i) v w'' → K ((A X).put o.dst v) w'') → OpWp P o (A X) w' K Q
  | [], k, i, o, h, ho, _ => by simp at ho
  | o' :: os, k, 0, o, h, ho, hne => by
    simp at ho
    subst ho
    have := h.1
    rw [if_neg (by omega)] at this
    exact this
  | o' :: os, k, i + 1, o, h, ho, hne => by
    have := stepsBut_at os (k + 1) i o h.2 (by simpa using ho) (by omega)
    rw [show k + 1 + i = k + (i + 1) by omega] at this
    exact this

theorem keep_cons {φ : Value → World → Prop} {φs : List (Value → World → Prop)} {b : Bool} {keep : List Bool} {w w' : World} (h : b = true → ∀ v, φ v w → φ v w')
    (hl : ∀ j v, keepAt keep j = true → phiAt φs j v w → phiAt φs j v w') : ∀ j v, keepAt (b :: keep) j = true → phiAt (φ :: φs) j v w → phiAt (φ :: φs) j v w'
  | 0, v, hk, hp => h hk v hp
  | j + 1, v, hk, hp => hl j v hk hp
theorem keep_nil {keep : List Bool} {w w' : World} : ∀ j v, keepAt keep j = true → phiAt [] j v w → phiAt [] j v w' := fun _ _ _ h => h

theorem wp_region_store {id : Nat} {a : Act} {w : World} {l : List Oper} (n s q : Nat) (keep : List Bool) (φs : List (Value → World → Prop)) (σ : Value → World → Prop) (hm : P.follows .mixedOrders = true)
    (hB : (postsOk l n && (decide (s < n) && depB l s q && ((l[s]?).all fun o => o.dst.isNone))) = true)
    (hst : ∀ φ ∈ φs, ∀ v w1 w2, φ v w1 → Below w1.heap.size w1 w2 → φ v w2) (hσ : ∀ v w1 w2, σ v w1 → Below w1.heap.size w1 w2 → σ v w2)
    (hs : stepsBut P Q w l s keep φs (puts a ((l.take n).map (·.dst)) 0) (l.take n) 0)
    (hS : ∀ (X : Nat → Value) (w' : World) (K : Act → World → Prop), Below w.heap.size w w' → (∀ j, (depB l s j && (j != s)) = true → phiAt φs j (X j) w') →
      (∀ w'', Below w.heap.size w w'' → (∀ j v, keepAt keep j = true → phiAt φs j v w' → phiAt φs j v w'') → σ (X q) w'' → K (puts a ((l.take n).map (·.dst)) 0 X) w'') →
      ∀ o, l[s]? = some o → OpWp P o (puts a ((l.take n).map (·.dst)) 0 X) w' K Q)
    (hT : ∀ X w', Below w.heap.size w w' → (∀ j, j < n → (keepAt keep j && (j != s)) = true → phiAt φs j (X j) w') → σ (X q) w' → ListWp P l.toArray Q (l.drop n) (puts a ((l.take n).map (·.dst)) 0 X) w') :
    (Code.region id l.toArray true).wp P Q a w := by
  simp only [postsOk, Bool.and_eq_true, decide_eq_true_eq] at hB
  obtain ⟨⟨⟨⟨⟨⟨hn, hh⟩, ht⟩, hseq⟩, hgd⟩, hap⟩, ⟨hsn, hq⟩, hsd⟩ := hB
  refine wp_region_any hm ?_
  obtain ⟨X0, h0⟩ := puts_self ((l.take n).map (·.dst)) a 0
  have hphi : ∀ i v w1 w2, phiAt φs i v w1 → Below w1.heap.size w1 w2 → phiAt φs i v w2 := by
    intro i v w1 w2 h1 h2
    unfold phiAt at *
    rw [List.getD_eq_getElem?_getD] at *
    cases hi : φs[i]? with
    | none => rw [hi] at h1; exact trivial
    | some φ =>
      rw [hi] at h1
      exact hst φ (List.mem_of_getElem? hi) v w1 w2 h1 h2
  have hsl : s < l.length := by omega
  have hll : l.toArray.size = l.length := by simp
  -- of a dependence: it lies ahead, and is done where the later one may come up
  have hdep : ∀ i j, i < n → depB l i j = true → j < i ∧ ∀ listed : Array Bool, listed.size = l.toArray.size → i ∈ Region.ready .any l.toArray listed → listed[j]? = some true := by
    intro i j hin hd
    have hil : i < l.length := by omega
    have ho2 : l.toArray[i]? = some l[i] := by simp [hil]
    unfold depB at hd
    rw [List.getElem?_eq_getElem hil] at hd
    simp only [Option.map_some, Option.getD_some, Array.any_eq_true] at hd
    obtain ⟨u, hu, hd⟩ := hd
    rw [Bool.and_eq_true, decide_eq_true_eq] at hd
    obtain ⟨o', hq0, _, hq2⟩ := head_spec hh hin
    rw [ho2] at hq0
    cases hq0
    have hlt := hq2 l[i].after[u] (by simp) hd.1
    rw [hd.2] at hlt
    refine ⟨hlt, fun listed hsz hr => ?_⟩
    obtain ⟨_, o', ho', hall⟩ := mem_ready.1 hr
    rw [ho2] at ho'
    cases ho'
    have h1 := hall l[i].after[u] (by simp) hd.1
    rw [hd.2] at h1
    have hjs : j < listed.size := by omega
    rw [Array.getD_eq_getD_getElem?, Array.getElem?_eq_getElem hjs] at h1
    rw [Array.getElem?_eq_getElem hjs]
    simpa using h1
  obtain ⟨hqs, _⟩ := hdep s q hsn hq
  have K := heads_inv (P := P) (Q := Q) (ops := l.toArray) (n := n) (g := l.length - n) (by simpa using hn) hh ht
    (Inv := fun listed a' w' => ∃ X, a' = puts a ((l.take n).map (·.dst)) 0 X ∧ Below w.heap.size w w' ∧ (∀ j, j < n → j ≠ s → listed[j]? = some true → (keepAt keep j = true ∨ listed[s]? = some false) → phiAt φs j (X j) w') ∧
      (listed[s]? = some true → σ (X q) w' ∧ ∀ j, depB l s j = true → listed[j]? = some true))
    (fun listed a' w' i hsz ⟨X, hX, hb, hf, hsg⟩ hin hfl hr => by
      subst hX
      have hil : i < l.length := by omega
      have ho : (l.take n)[i]? = some l[i] := by rw [List.getElem?_take, if_pos hin, List.getElem?_eq_getElem hil]
      have ho1 : l[i]? = some l[i] := List.getElem?_eq_getElem hil
      have ho2 : l.toArray[i]? = some l[i] := by simp [hil]
      have hg : l[i].guard = none := by
        have := List.all_eq_true.1 hgd _ (List.mem_of_getElem? ho)
        simpa using this
      unfold wpOp
      rw [ho2]
      simp only
      rw [if_pos (by unfold Region.wanted; rw [hg])]
      left
      by_cases his : i = s
      · subst his
        refine (hS X w' _ hb (fun j hd => ?_) (fun w'' hb2 hk hv => ?_) _ ho1).out
        · simp only [Bool.and_eq_true, bne_iff_ne, ne_eq] at hd
          obtain ⟨h1, h2⟩ := hdep i j hin hd.1
          exact hf j (by omega) hd.2 (h2 listed hsz hr) (.inr hfl)
        · have hset : (listed.setIfInBounds i true)[i]? = some true := by rw [Array.getElem?_setIfInBounds, if_pos rfl, if_pos (by omega)]
          refine ⟨X, rfl, hb2, fun j hj hji hlj hkj => ?_, fun _ => ⟨hv, fun j hd => ?_⟩⟩
          · rw [hset] at hkj
            rcases hkj with hkj | hkj
            · rw [Array.getElem?_setIfInBounds_ne (fun h => hji h.symm)] at hlj
              exact hk j _ hkj (hf j hj hji hlj (.inl hkj))
            · cases hkj
          · by_cases e : i = j
            · subst e; exact hset
            · rw [Array.getElem?_setIfInBounds_ne e]
              exact (hdep i j hin hd).2 listed hsz hr
      · refine (stepsBut_at (l.take n) 0 i _ hs ho (by omega) X w' _ hb (fun j hd => ?_) (fun v w'' hb2 hv => ?_)).out
        · rw [Nat.zero_add] at hd
          simp only [toldB, Bool.and_eq_true, Bool.or_eq_true, bne_iff_ne, ne_eq] at hd
          obtain ⟨⟨hd1, hd2⟩, hd3⟩ := hd
          obtain ⟨h1, h2⟩ := hdep i j hin hd1
          refine hf j (by omega) hd2 (h2 listed hsz hr) ?_
          rcases hd3 with hd3 | hd3
          · right
            have hss : s < listed.size := by omega
            cases hls : listed[s]? with
            | none => rw [Array.getElem?_eq_none_iff] at hls; omega
            | some b =>
              cases b with
              | false => rfl
              | true =>
                have := (hsg hls).2 i hd3
                rw [hfl] at this
                cases this
          · exact .inl hd3
        · rw [Nat.zero_add] at hv
          refine ⟨upd X i v, ?_, hb.trans (hb2.mono hb.size), fun j hj hjs hlj hkj => ?_, fun hls => ?_⟩
          · have := puts_set (X := X) (v := v) ((l.take n).map (·.dst)) a 0 i l[i].dst hap (by rw [List.getElem?_map, ho]; rfl)
            rw [Nat.zero_add] at this
            exact this
          · rw [Array.getElem?_setIfInBounds_ne his] at hkj
            by_cases e : j = i
            · subst e
              unfold upd; rw [if_pos rfl]; exact hv
            · rw [Array.getElem?_setIfInBounds_ne (fun h => e h.symm)] at hlj
              unfold upd; rw [if_neg e]
              exact hphi _ _ _ _ (hf j hj hjs hlj hkj) hb2
          · rw [Array.getElem?_setIfInBounds_ne his] at hls
            obtain ⟨g1, g2⟩ := hsg hls
            refine ⟨?_, fun j hd => ?_⟩
            · have hqi : q ≠ i := by
                intro e
                have := g2 q hq
                rw [e, hfl] at this
                cases this
              unfold upd; rw [if_neg hqi]
              exact hσ _ _ _ g1 hb2
            · by_cases e : i = j
              · subst e; rw [Array.getElem?_setIfInBounds, if_pos rfl, if_pos (by omega)]
              · rw [Array.getElem?_setIfInBounds_ne e]; exact g2 j hd)
    (fun listed a' w' h1 h2 h3 ⟨X, hX, hb, hf, hsg⟩ => by
      subst hX
      have he : listed = Array.replicate n true ++ Array.replicate (l.length - n) false := by
        apply Array.ext_getElem?
        intro i
        by_cases hi : i < n
        · rw [h2 i hi, Array.getElem?_append_left (by simpa using hi)]; simp [hi]
        · by_cases hi2 : i < l.length
          · rw [h3 i (by omega) (by simpa using hi2), Array.getElem?_append_right (by rw [Array.size_replicate]; omega), Array.size_replicate, Array.getElem?_replicate, if_pos (by omega)]
          · rw [Array.getElem?_eq_none (by rw [h1]; simp; omega), Array.getElem?_eq_none (by rw [Array.size_append, Array.size_replicate, Array.size_replicate]; omega)]
      have hX := hT X w' hb (fun j hj hk => by
        simp only [Bool.and_eq_true, bne_iff_ne, ne_eq] at hk
        exact hf j hj hk.2 (h2 j hj) (.inl hk.1)) (hsg (h2 s hsn)).1
      subst he
      have := wpAny_of_seq (P := P) (md := .any) (Q' := Q) (ops := l.toArray) (l.drop n) n _ _ w' (fun j => by simp [List.getElem?_drop]) (by rw [List.length_drop]; exact hseq) hX.out
      rwa [List.length_drop] at this)
    n (Array.replicate l.length false) a { w with drawn := w.drawn + 1 } (by simp) (fun t h1 h2 => by rw [Array.getElem?_replicate, if_pos (by simpa using h2)]) (cntF_le _ n)
    ⟨X0, h0.symm, ⟨rfl, rfl, rfl, Nat.le_refl _, fun _ _ => rfl⟩, fun j hj _ hlj => by rw [Array.getElem?_replicate] at hlj; split at hlj <;> simp at hlj, fun hls => by rw [Array.getElem?_replicate] at hls; split at hls <;> simp at hls⟩
  rw [show n + (l.length - n) = l.toArray.size by simp; omega] at K
  simpa using K
end

end Go.Proofs.Ytggojomooodlgaa
