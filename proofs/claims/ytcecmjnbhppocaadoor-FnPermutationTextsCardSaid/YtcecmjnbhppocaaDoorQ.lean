/- Regions that draw their order and whose operations only read, or call functions that at most make memory of their own: one walk in the order of the text, over the class of worlds that hold all that was there. No program in sight. -/
import Derived.WalkKit
import Derived.BigQuiet
namespace Go.Proofs.YtcecmjnbhppocaaDoor
open Go.RowKit
set_option linter.unusedVariables false
set_option linter.unusedSimpArgs false

/-- What a world has more than another: further blocks, and its count of draws. -/
structure More where
  blocks : Array Obj
  drawn : Nat
instance : Inhabited More := ⟨⟨#[], 0⟩⟩

/-- The world with further blocks behind it, and another count of draws. -/
def wext (w : World) (x : More) : World := { w with heap := w.heap ++ x.blocks, drawn := x.drawn }

theorem wext_size (w : World) (x : More) : w.heap.size ≤ (wext w x).heap.size := by
  show w.heap.size ≤ (w.heap ++ x.blocks).size
  rw [Array.size_append]; omega
theorem wext_block (w : World) (x : More) (b : Nat) (h : b < w.heap.size) : (wext w x).heap[b]? = w.heap[b]? := by
  show (w.heap ++ x.blocks)[b]? = _
  rw [Array.getElem?_append_left h]
theorem wext_below (w : World) (x : More) : Below w.heap.size w (wext w x) :=
  ⟨rfl, rfl, rfl, wext_size w x, fun k hk => wext_block w x k hk⟩
theorem wext_of {w w' : World} (h : Below w.heap.size w w') : ∃ x, w' = wext w x := by
  refine ⟨⟨w'.heap.extract w.heap.size w'.heap.size, w'.drawn⟩, ?_⟩
  obtain ⟨h1, h2, h3, h4, h5⟩ := h
  cases w'; cases w
  simp only at h1 h2 h3 h4 h5
  subst h1 h2 h3
  simp only [wext]
  congr 1
  apply Array.ext_getElem?
  intro i
  rename_i hp _ _ _ _ hp2 _
  by_cases hi : i < hp2.size
  · rw [Array.getElem?_append_left hi, h5 i hi]
  · rw [Array.getElem?_append_right (by omega)]
    rw [Array.getElem?_extract]
    by_cases hj : i < hp.size
    · rw [if_pos (by omega)]
      congr 1; omega
    · rw [if_neg (by omega)]
      exact Array.getElem?_eq_none (by omega)

/-- A cell of a world of which nothing else is said here. -/
def cellRest (w : World) (b o : Nat) : Option Value := w.cell? ⟨b, o, none⟩
def frozenRest (w : World) (b o : Nat) : Bool := w.frozen? ⟨b, o, none⟩
@[go_sem] theorem wext_cell (w : World) (x : More) (b o : Nat) : (wext w x).cell? ⟨b, o, none⟩ = if b < w.heap.size then w.cell? ⟨b, o, none⟩ else cellRest (wext w x) b o := by
  split
  · rename_i h; exact World.cell?_of_block (w := w) (wext_block w x b h)
  · rfl
@[go_sem] theorem wext_frozen (w : World) (x : More) (b o : Nat) : (wext w x).frozen? ⟨b, o, none⟩ = if b < w.heap.size then w.frozen? ⟨b, o, none⟩ else frozenRest (wext w x) b o := by
  split
  · rename_i h; exact World.frozen?_of_block (w := w) (wext_block w x b h)
  · rfl

theorem wp_region_wext {P : Program} {id : Nat} {Q : Exit → Act → World → Prop} {a : Act} {w : World} {l : List Oper} (hm : P.follows .mixedOrders = true) (hB : Region.lexB .any l.toArray = true)
    (h : wpQuiet P l.toArray (fun w' => ∃ x, w' = wext w x) (fun a' => ∀ w', (∃ x, w' = wext w x) → Q .normal a' w') l a) : (Code.region id l.toArray true).wp P Q a w :=
  wp_region_quiet (C := fun w' => ∃ x, w' = wext w x) hm hB ⟨⟨#[], w.drawn + 1⟩, by simp [wext]⟩ (by simpa using h)

/-- A callee that at most makes memory. -/
theorem calls_wext {P : Program} {f : FuncId} {args : Array Value} {w : World} {x : More} {v : Value}
    (h : Calls P f args (wext w x) fun e w' => e = .returned v ∧ Below (wext w x).heap.size (wext w x) w') : Calls P f args (wext w x) fun e w'' => e = .returned v ∧ ∃ y, w'' = wext w y :=
  h.mono fun _ _ ⟨he, hb⟩ => ⟨he, wext_of ((wext_below w x).trans (hb.mono (wext_size w x)))⟩
/-- A callee that leaves the world alone. -/
theorem calls_wext_same {P : Program} {f : FuncId} {args : Array Value} {w : World} {x : More} {v : Value}
    (h : Calls P f args (wext w x) fun e w' => e = .returned v ∧ wext w x = w') : Calls P f args (wext w x) fun e w'' => e = .returned v ∧ ∃ y, w'' = wext w y :=
  h.mono fun _ _ ⟨he, hb⟩ => ⟨he, x, hb.symm⟩
theorem below_of_wext {w w' : World} (h : ∃ x, w' = wext w x) : Below w.heap.size w w' := by
  obtain ⟨x, rfl⟩ := h
  exact wext_below w x

/-- A cell of a world with one block more. -/
theorem alloc_ite (w : World) (c : Array Value) (t : TypeId) (b o : Nat) : (w.alloc (.cells c t)).cell? ⟨b, o, none⟩ = if b < w.heap.size then w.cell? ⟨b, o, none⟩ else if b = w.heap.size then c[o]? else none := by
  show (match (w.heap.push (.cells c t))[b]? with | some (.cells c _ _) => if (none : Option Nat).isSome then none else c[o]? | _ => none) = _
  rw [Array.getElem?_push]
  by_cases h : b < w.heap.size
  · rw [if_neg (by omega), if_pos h]; rfl
  · rw [if_neg h]
    by_cases h2 : b = w.heap.size
    · rw [if_pos h2, if_pos h2]; rfl
    · rw [if_neg h2, if_neg h2, Array.getElem?_eq_none (by omega)]
/-- A cell behind a store. -/
theorem set_ite (w : World) (b o : Nat) (v : Value) (b' o' : Nat) : (w.setCell ⟨b, o, none⟩ v).cell? ⟨b', o', none⟩ = if b = b' ∧ o = o' then (w.cell? ⟨b, o, none⟩).map (fun _ => v) else w.cell? ⟨b', o', none⟩ := by
  by_cases h : b = b' ∧ o = o'
  · obtain ⟨rfl, rfl⟩ := h
    rw [if_pos ⟨rfl, rfl⟩]
    cases hc : w.cell? ⟨b, o, none⟩ with
    | some u => rw [World.cell?_setCell_same (h := hc)]; rfl
    | none =>
      simp only [World.setCell, World.cell?, Array.getElem?_modify] at hc ⊢
      cases hh : w.heap[b]? with
      | none => simp [hh]
      | some x =>
        rw [hh] at hc
        cases x with
        | cells c t fr =>
          simp only [Option.isSome_none] at hc
          simp [hh]
          have hsz : c.size ≤ o := by simpa using hc
          exact hsz
        | _ => simp [hh]
  · rw [if_neg h]
    have hne : (⟨b, o, none⟩ : Addr) ≠ ⟨b', o', none⟩ := fun e => h (by injection e with e1 e2 _; exact ⟨e1, e2⟩)
    apply World.cell?_setCell_other
    exact hne
/-- What 'Below' gives the walk: the test on the block's number is left to arithmetic. -/
theorem bfacts2 {W w1 : World} (hb : Below W.heap.size W w1) : (∀ b o, w1.cell? ⟨b, o, none⟩ = if b < W.heap.size then W.cell? ⟨b, o, none⟩ else cellRest w1 b o) ∧ (∀ b o, w1.frozen? ⟨b, o, none⟩ = if b < W.heap.size then W.frozen? ⟨b, o, none⟩ else frozenRest w1 b o) ∧ W.heap.size ≤ w1.heap.size :=
  ⟨fun b o => by split; exact hb.cell (p := ⟨b, o, none⟩) ‹_›; rfl, fun b o => by split; exact hb.frozen (p := ⟨b, o, none⟩) ‹_›; rfl, hb.size⟩


end Go.Proofs.YtcecmjnbhppocaaDoor
