/- Regions that draw their order and whose operations only read, or call functions that at most make memory of their own: one walk in the order of the text, over the class of worlds that hold all that was there. No program in sight. -/
import Derived.WalkKit
import Derived.BigQuiet
namespace Go.Proofs.Ytmbkdcjgblgopaa
open Go.RowKit
set_option linter.unusedVariables false
set_option linter.unusedSimpArgs false

/-- What a world has more than another: further blocks, and its count of draws. -/
structure More where
  blocks : Array Obj
  drawn : Nat
instance : Inhabited More := ⟨⟨#[], 0⟩⟩

/-- The world with further blocks behind it, and another count of draws. -/
def wext (w : World) (x : More) : World := { w with heap := w.heap ++ x.blocks, drawn := x.drawn }

theorem wext_size (w : World) (x : More) : w.heap.size ≤ (wext w x).heap.size := by
  show w.heap.size ≤ (w.heap ++ x.blocks).size
  rw [Array.size_append]; omega
theorem wext_block (w : World) (x : More) (b : Nat) (h : b < w.heap.size) : (wext w x).heap[b]? = w.heap[b]? := by
  show (w.heap ++ x.blocks)[b]? = _
  rw [Array.getElem?_append_left h]
theorem wext_below (w : World) (x : More) : Below w.heap.size w (wext w x) :=
  ⟨rfl, rfl, rfl, wext_size w x, fun k hk => wext_block w x k hk⟩
theorem wext_of {w w' : World} (h : Below w.heap.size w w') : ∃ x, w' = wext w x := by
  refine ⟨⟨w'.heap.extract w.heap.size w'.heap.size, w'.drawn⟩, ?_⟩
  obtain ⟨h1, h2, h3, h4, h5⟩ := h
  cases w'; cases w
  simp only at h1 h2 h3 h4 h5
  subst h1 h2 h3
  simp only [wext]
  congr 1
  apply Array.ext_getElem?
  intro i
  rename_i hp _ _ _ _ hp2 _
  by_cases hi : i < hp2.size
  · rw [Array.getElem?_append_left hi, h5 i hi]
  · rw [Array.getElem?_append_right (by omega)]
    rw [Array.getElem?_extract]
    by_cases hj : i < hp.size
    · rw [if_pos (by omega)]
      congr 1; omega
    · rw [if_neg (by omega)]
      exact Array.getElem?_eq_none (by omega)

@[go_sem] theorem wext_cell (w : World) (x : More) (b o : Nat) (s : Option Nat) (h : b < w.heap.size) : (wext w x).cell? ⟨b, o, s⟩ = w.cell? ⟨b, o, s⟩ := by
  exact World.cell?_of_block (w := w) (wext_block w x b h)
@[go_sem] theorem wext_frozen (w : World) (x : More) (b o : Nat) (s : Option Nat) (h : b < w.heap.size) : (wext w x).frozen? ⟨b, o, s⟩ = w.frozen? ⟨b, o, s⟩ := by
  exact World.frozen?_of_block (w := w) (wext_block w x b h)

theorem wp_region_wext {P : Program} {id : Nat} {Q : Exit → Act → World → Prop} {a : Act} {w : World} {l : List Oper} (hm : P.follows .mixedOrders = true) (hB : Region.lexB .any l.toArray = true)
    (h : wpQuiet P l.toArray (fun w' => ∃ x, w' = wext w x) (fun a' => ∀ w', (∃ x, w' = wext w x) → Q .normal a' w') l a) : (Code.region id l.toArray true).wp P Q a w :=
  wp_region_quiet (C := fun w' => ∃ x, w' = wext w x) hm hB ⟨⟨#[], w.drawn + 1⟩, by simp [wext]⟩ (by simpa using h)

/-- A callee that at most makes memory. -/
theorem calls_wext {P : Program} {f : FuncId} {args : Array Value} {w : World} {x : More} {v : Value}
    (h : Calls P f args (wext w x) fun e w' => e = .returned v ∧ Below (wext w x).heap.size (wext w x) w') : Calls P f args (wext w x) fun e w'' => e = .returned v ∧ ∃ y, w'' = wext w y :=
  h.mono fun _ _ ⟨he, hb⟩ => ⟨he, wext_of ((wext_below w x).trans (hb.mono (wext_size w x)))⟩
/-- A callee that leaves the world alone. -/
theorem calls_wext_same {P : Program} {f : FuncId} {args : Array Value} {w : World} {x : More} {v : Value}
    (h : Calls P f args (wext w x) fun e w' => e = .returned v ∧ wext w x = w') : Calls P f args (wext w x) fun e w'' => e = .returned v ∧ ∃ y, w'' = wext w y :=
  h.mono fun _ _ ⟨he, hb⟩ => ⟨he, x, hb.symm⟩
theorem below_of_wext {w w' : World} (h : ∃ x, w' = wext w x) : Below w.heap.size w w' := by
  obtain ⟨x, rfl⟩ := h
  exact wext_below w x

end Go.Proofs.Ytmbkdcjgblgopaa
