/- Slices of slices of int64, slices of bools that a call owns; the cycles of a permutation, as plain functions. -/
import Derived.Test.YtcecmjnbhppocaaDoorU
import Derived.Deep.LoopGhost
namespace Go.Proofs.YtcecmjnbhppocaaDoor
open Go.RowKit
set_option linter.unusedVariables false
set_option linter.unusedSimpArgs false

/-- The value v is a slice of the call's own (its block is not below lo; its elements are one cell each, of type t) that holds the values xs. -/
def OwnV (t : TypeId) (w : World) (lo : Nat) (v : Value) (xs : List Value) : Prop := xs.length ≤ 1099511627776 ∧ w.ownsRow lo t 1 v xs.length xs

theorem OwnV.kept {t : TypeId} {w w' : World} {lo : Nat} {v : Value} {xs : List Value} {row : Option Nat} (h : OwnV t w lo v xs) (hg : w.grownBy w' row) (hne : v.ownBlock = none ∨ v.ownBlock ≠ row) : OwnV t w' lo v xs := ⟨h.1, World.ownsRow.kept h.2 hg hne⟩
theorem OwnV.step {t : TypeId} {w w' : World} {lo : Nat} {v : Value} {xs : List Value} (h : OwnV t w lo v xs) (hb : Below w.heap.size w w') : OwnV t w' lo v xs := by
  refine h.kept (below_grown hb) ?_
  cases v.ownBlock with
  | none => exact .inl rfl
  | some k => exact .inr (by simp)
theorem OwnV.lt {t : TypeId} {w : World} {lo : Nat} {v : Value} {xs : List Value} (h : OwnV t w lo v xs) : ∀ k, v.ownBlock = some k → lo ≤ k ∧ k < w.heap.size := World.ownsRow.lt h.2
theorem OwnV.mono {t : TypeId} {w : World} {lo lo' : Nat} {v : Value} {xs : List Value} (h : OwnV t w lo v xs) (hl : lo' ≤ lo) : OwnV t w lo' v xs := by
  refine ⟨h.1, h.2.1, ?_⟩
  rcases h.2.2 with h2 | ⟨g, cap, cur, e, hg, r⟩
  · exact .inl h2
  · exact .inr ⟨g, cap, cur, e, by omega, r⟩
theorem OwnV.nil {t : TypeId} {w : World} {lo : Nat} : OwnV t w lo (.slice none 0 0) [] := ⟨by simp, World.ownsRow_nil _ _ _ _⟩
theorem OwnV.empty {t : TypeId} {w : World} {lo : Nat} (h : lo ≤ w.heap.size) : OwnV t (w.alloc (.cells #[] t)) lo (.slice (some ⟨w.heap.size, 0, none⟩) 0 0) [] :=
  ⟨by simp, World.ownsRow_made w #[] 0 h (by simp) rfl⟩
theorem OwnV.alloc {t : TypeId} {w : World} {lo : Nat} {v : Value} {xs : List Value} (h : OwnV t w lo v xs) (o : Obj) : OwnV t (w.alloc o) lo v xs := ⟨h.1, World.ownsRow.alloc h.2 o⟩
/-- Its shape. -/
theorem OwnV.shape {t : TypeId} {w : World} {lo : Nat} {v : Value} {xs : List Value} (h : OwnV t w lo v xs) : ∃ a cap, v = .slice a xs.length cap ∧ xs.length ≤ cap ∧ cap ≤ maxLen ∧ (0 < xs.length → ∃ g, a = some ⟨g, 0, none⟩) := by
  rcases h.2.2 with ⟨rfl, h2⟩ | ⟨g, cap, cur, rfl, hg, hh, hc, hm, hs, ht⟩
  · rw [h2]; exact ⟨none, 0, rfl, by omega, by simp, fun h => by omega⟩
  · exact ⟨_, cap, rfl, hc, hm, fun _ => ⟨g, rfl⟩⟩
theorem Own.shape {w : World} {lo : Nat} {v : Value} {zs : List Int} (h : Own w lo v zs) : ∃ a cap, v = .slice a zs.length cap ∧ zs.length ≤ cap ∧ cap ≤ maxLen ∧ (0 < zs.length → ∃ g, a = some ⟨g, 0, none⟩) := by
  obtain ⟨a, cap, h1, h2, h3, h4⟩ := OwnV.shape (t := 2) (xs := zs.map (Value.int .i64)) (w := w) (lo := lo) (v := v) ⟨by simpa using h.1, by simpa using h.2⟩
  exact ⟨a, cap, by simpa using h1, by simpa using h2, h3, by simpa using h4⟩
theorem OwnV.head {t : TypeId} {w : World} {lo : Nat} {v : Value} {xs : List Value} (h : OwnV t w lo v xs) (hp : 0 < xs.length) : ∃ g cap, v = .slice (some ⟨g, 0, none⟩) xs.length cap ∧ lo ≤ g ∧ g < w.heap.size ∧ xs.length ≤ cap ∧ cap ≤ maxLen := by
  rcases h.2.2 with ⟨rfl, h2⟩ | ⟨g, cap, cur, rfl, hg, hh, hc, hm, hs, ht⟩
  · omega
  · exact ⟨g, cap, rfl, hg, (h.lt g rfl).2, hc, hm⟩
theorem OwnV.len {t : TypeId} {w : World} {lo n cap : Nat} {a : Option Addr} {xs : List Value} (h : OwnV t w lo (.slice a n cap) xs) : n = xs.length := by
  rcases h.2.2 with ⟨h', h2⟩ | ⟨g', cap', cur, h', _⟩
  · injection h' with _ h3 _; omega
  · injection h'
theorem OwnV.cellAt {t : TypeId} {w : World} {lo g n cap : Nat} {xs : List Value} (h : OwnV t w lo (.slice (some ⟨g, 0, none⟩) n cap) xs) {i : Nat} {x : Value} (hi : xs[i]? = some x) : w.cell? ⟨g, i, none⟩ = some x := by
  obtain rfl := h.len
  have hlt : i < xs.length := by
    apply Decidable.byContradiction; intro hh
    rw [List.getElem?_eq_none (by omega)] at hi; cases hi
  rw [World.ownsRow.cellAt h.2 i (by omega), hi]
theorem OwnV.frozenAt {t : TypeId} {w : World} {lo g n cap : Nat} {xs : List Value} (h : OwnV t w lo (.slice (some ⟨g, 0, none⟩) n cap) xs) (i : Nat) : w.frozen? ⟨g, i, none⟩ = false := by
  obtain rfl := h.len
  exact World.ownsRow.frozenAt h.2 i
theorem OwnV.stored {t : TypeId} {w : World} {lo g n cap : Nat} {xs : List Value} (h : OwnV t w lo (.slice (some ⟨g, 0, none⟩) n cap) xs) (k : Nat) (x : Value) :
    OwnV t (w.setCell ⟨g, k, none⟩ x) lo (.slice (some ⟨g, 0, none⟩) n cap) (xs.set k x) ∧ w.grownBy (w.setCell ⟨g, k, none⟩ x) (some g) := by
  obtain rfl := h.len
  obtain ⟨h1, h2⟩ := World.ownsRow.stored h.2 k x
  exact ⟨⟨by simpa using h.1, by simpa using h1⟩, h2⟩
/-- Slices whose elements are of different types do not share memory. -/
theorem own_types {w : World} {lo lo' s s' n m : Nat} {t t' : TypeId} {v u : Value} {xs ys : List Value} (ht : t ≠ t') (h : w.ownsRow lo t s v n xs) (k : w.ownsRow lo' t' s' u m ys) : v.ownBlock = none ∨ v.ownBlock ≠ u.ownBlock := by
  rcases h.2 with ⟨rfl, _⟩ | ⟨g, cap, cur, rfl, _, hg, _⟩
  · exact .inl rfl
  · right
    rcases k.2 with ⟨rfl, _⟩ | ⟨g', cap', cur', rfl, _, hg', _⟩
    · simp [Value.ownBlock]
    · simp only [Value.ownBlock, ne_eq, Option.some.injEq]
      intro e
      rw [← e, hg] at hg'
      injection hg' with h1
      injection h1 with h2 h3
      exact ht h3

theorem size_setCell (w : World) (a : Addr) (v : Value) : w.heap.size = (w.setCell a v).heap.size := by simp [World.setCell]
/-- 'append(out, x)', out a slice of the call's own, of elements of one cell. -/
theorem append_oneV {ops : Array Oper} {rest : List Oper} {o : Oper} {a : Act} {Q : Exit → Act → World → Prop} {T e : TypeId} {z : Value} {bytes : Nat}
    (hinf : (Tryd.prog.info? e).map (fun i => (i.zero, i.size, i.bytes)) = some (some z, 1, bytes)) (hu : Tryd.prog.underlying T = some (.slice e)) (hzs : z.cells.size = 1) (hby : bytes ≤ 64)
    (wr : World) (hgd : o.guard = none) (s x : Operand)
    (ho : o.op = .call { callee := .builtin .append, args := #[s, x], argTypes := #[T, T] }) {lo : Nat} {v : Value} {L : List Value} {n : Value} {t : TypeId} (hs : a.eval s = v) (hown : OwnV e wr lo v L)
    (hlen : L.length + 1 ≤ 1099511627776) (hlo : lo ≤ wr.heap.size) {nb : Nat} (hnb : nb = wr.heap.size) (hx : a.eval x = .slice (some ⟨nb, 0, none⟩) 1 1) (h1 : n.oneCell' = true)
    (h : ∀ v' w', OwnV e w' lo v' (L ++ [n]) → wr.grownBy w' v.ownBlock → Below lo wr w' → wpList Tryd.prog ops Q rest (a.put o.dst v') w') : wpList Tryd.prog ops Q (o :: rest) a (wr.alloc (.cells #[n] t)) := by
  subst hnb
  obtain ⟨i0, hi, hz0, hz1, hz2⟩ := info_parts hinf
  have hby2 : (L.length + 1) * bytes ≤ 140737488355328 := by
    have := Nat.mul_le_mul hlen hby
    omega
  refine wpList_append_own _ hgd s x T ho lo e i0 z 1 bytes hu hi hz0 hz1 hz2 hzs (by decide) v L.length L hs (World.ownsRow.alloc hown.2 _) ⟨wr.heap.size, 0, none⟩ 1 1 [n] hx rfl (one_new wr _ _) (by intro u hu; simp at hu; subst hu; exact h1) (by unfold maxLen; omega) hby2 (by simp; omega) ?_
  intro v' w' h1 h2 _
  have hg : wr.grownBy w' v.ownBlock := grown_trans (World.grownBy_alloc _ _ _) h2
  refine h v' w' ⟨by simpa using hlen, by simpa using h1⟩ hg ?_
  exact (Below.refl _ _).grown hg hlo (fun k hk => (hown.lt k hk).1)

/-- The same at a slice of int64. -/
theorem append_oneG {ops : Array Oper} {rest : List Oper} {o : Oper} {a : Act} {Q : Exit → Act → World → Prop} (wr : World) (hgd : o.guard = none) (s x : Operand)
    (ho : o.op = .call { callee := .builtin .append, args := #[s, x], argTypes := #[22, 22] }) {lo : Nat} {v : Value} {L : List Int} {n : Int} {t : TypeId} (hs : a.eval s = v) (hown : Own wr lo v L)
    (hlen : L.length + 1 ≤ 1099511627776) (hlo : lo ≤ wr.heap.size) {nb : Nat} (hnb : nb = wr.heap.size) (hx : a.eval x = .slice (some ⟨nb, 0, none⟩) 1 1)
    (h : ∀ v' w', Own w' lo v' (L ++ [n]) → wr.grownBy w' v.ownBlock → Below lo wr w' → wpList Tryd.prog ops Q rest (a.put o.dst v') w') : wpList Tryd.prog ops Q (o :: rest) a (wr.alloc (.cells #[.int .i64 n] t)) := by
  refine append_oneV info64 Tryd.underlying22 rfl (by omega) wr hgd s x ho (L := L.map (.int .i64)) hs ⟨by simpa using hown.1, by simpa using hown.2⟩ (by simpa using hlen) hlo hnb hx rfl ?_
  intro v' w' h1 h2 h3
  exact h v' w' ⟨by simpa using hlen, by simpa using h1.2⟩ h2 h3

/-! ### a slice of slices -/
def nilS : Value := .slice none 0 0
def at_ (us : List Value) (i : Nat) : Value := us.getD i nilS
theorem at_get {us : List Value} {i : Nat} (h : i < us.length) : us[i]? = some (at_ us i) := by
  rw [at_, List.getD_eq_getElem?_getD, List.getElem?_eq_getElem h]; rfl
def row (zss : List (List Int)) (i : Nat) : List Int := zss.getD i []
/-- Slices of the call's own, none of which shares memory with another; their blocks lie from lo to hi. -/
structure Fam (w : World) (lo hi : Nat) (us : List Value) (zss : List (List Int)) : Prop where
  len : us.length = zss.length
  own : ∀ i, i < zss.length → Own w lo (at_ us i) (row zss i)
  top : ∀ i, i < zss.length → ∀ k, (at_ us i).ownBlock = some k → k < hi
  apart : ∀ i j, i < j → j < zss.length → (at_ us i).ownBlock = none ∨ (at_ us i).ownBlock ≠ (at_ us j).ownBlock
theorem Fam.nil {w : World} {lo hi : Nat} : Fam w lo hi [] [] := ⟨rfl, fun i h => by simp at h, fun i h => by simp at h, fun i j _ h => by simp at h⟩
theorem Fam.kept {w w' : World} {lo hi : Nat} {us : List Value} {zss : List (List Int)} {r : Option Nat} (h : Fam w lo hi us zss) (hg : w.grownBy w' r) (hne : ∀ i, i < zss.length → (at_ us i).ownBlock = none ∨ (at_ us i).ownBlock ≠ r) : Fam w' lo hi us zss :=
  ⟨h.len, fun i hi => (h.own i hi).kept hg (hne i hi), h.top, h.apart⟩
theorem Fam.step {w w' : World} {lo hi : Nat} {us : List Value} {zss : List (List Int)} (h : Fam w lo hi us zss) (hb : Below w.heap.size w w') : Fam w' lo hi us zss :=
  ⟨h.len, fun i hi => (h.own i hi).step hb, h.top, h.apart⟩
theorem Fam.mono {w : World} {lo hi hi' : Nat} {us : List Value} {zss : List (List Int)} (h : Fam w lo hi us zss) (hh : hi ≤ hi') : Fam w lo hi' us zss :=
  ⟨h.len, h.own, fun i hi k hk => by have := h.top i hi k hk; omega, h.apart⟩
theorem Fam.snoc {w : World} {lo lo' hi : Nat} {us : List Value} {zss : List (List Int)} {u : Value} {zs : List Int} (h : Fam w lo lo' us zss) (hu : Own w lo' u zs) (hl : lo ≤ lo') (hl2 : lo' ≤ hi) (hhi : w.heap.size ≤ hi) : Fam w lo hi (us ++ [u]) (zss ++ [zs]) := by
  have a1 : ∀ i, i < zss.length → at_ (us ++ [u]) i = at_ us i := fun i hi => by
    simp only [at_, List.getD_eq_getElem?_getD]; rw [List.getElem?_append_left (by have := h.len; omega)]
  have a2 : at_ (us ++ [u]) zss.length = u := by
    simp only [at_, List.getD_eq_getElem?_getD]; rw [← h.len]; simp
  have r1 : ∀ i, i < zss.length → row (zss ++ [zs]) i = row zss i := fun i hi => by
    simp only [row, List.getD_eq_getElem?_getD]; rw [List.getElem?_append_left (by omega)]
  have r2 : row (zss ++ [zs]) zss.length = zs := by
    simp only [row, List.getD_eq_getElem?_getD]; simp
  refine ⟨by simp [h.len], fun i hi' => ?_, fun i hi' k hk => ?_, fun i j hij hj => ?_⟩
  · by_cases hi : i < zss.length
    · rw [a1 i hi, r1 i hi]; exact h.own i hi
    · obtain rfl : i = zss.length := by simp at hi'; omega
      rw [a2, r2]; exact hu.mono hl
  · by_cases hi : i < zss.length
    · rw [a1 i hi] at hk; have := h.top i hi k hk; omega
    · obtain rfl : i = zss.length := by simp at hi'; omega
      rw [a2] at hk; have := (hu.lt k hk).2; omega
  · by_cases hj' : j < zss.length
    · rw [a1 i (by omega), a1 j hj']; exact h.apart i j hij hj'
    · obtain rfl : j = zss.length := by simp at hj; omega
      rw [a1 i hij, a2]
      cases hb : (at_ us i).ownBlock with
      | none => exact .inl rfl
      | some k =>
        right
        intro e
        have := h.top i hij k hb
        have := (hu.lt k e.symm).1
        omega

/-- The value v is a slice of slices of the call's own that holds zss; all of its memory lies from lo to hi. -/
def OwnLL (w : World) (lo hi : Nat) (v : Value) (zss : List (List Int)) : Prop :=
  hi ≤ w.heap.size ∧ (∀ k, v.ownBlock = some k → k < hi) ∧ ∃ us, OwnV 22 w lo v us ∧ Fam w lo hi us zss
theorem info6464 : (Tryd.prog.info? 22).map (fun i => (i.zero, i.size, i.bytes)) = some (some (.slice none 0 0), 1, 24) := by kernel_rfl
theorem infoBool : (Tryd.prog.info? 4).map (fun i => (i.zero, i.size, i.bytes)) = some (some (.bool false), 1, 1) := by kernel_rfl

/-- w' is w but for blocks from a to b, and new ones. -/
structure Touch (a b : Nat) (w w' : World) : Prop where
  os : w'.os = w.os
  tape : w'.tape = w.tape
  output : w'.output = w.output
  size : w.heap.size ≤ w'.heap.size
  block : ∀ k, k < w.heap.size → (k < a ∨ b ≤ k) → w'.heap[k]? = w.heap[k]?
theorem Touch.refl {a b : Nat} {w : World} : Touch a b w w := ⟨rfl, rfl, rfl, Nat.le_refl _, fun _ _ _ => rfl⟩
theorem Touch.trans {a b : Nat} {w w1 w2 : World} (h : Touch a b w w1) (k : Touch a b w1 w2) : Touch a b w w2 :=
  ⟨k.os.trans h.os, k.tape.trans h.tape, k.output.trans h.output, Nat.le_trans h.size k.size, fun i hi hr => (k.block i (by have := h.size; omega) hr).trans (h.block i hi hr)⟩
theorem Touch.of_grown {a b : Nat} {w w' : World} {r : Option Nat} (h : w.grownBy w' r) (hr : ∀ k, r = some k → a ≤ k ∧ k < b) : Touch a b w w' :=
  ⟨h.os, h.tape, h.output, h.size, fun k hk hne => h.block k hk (fun e => by have := hr k e.symm; omega)⟩
theorem Touch.below {a b B : Nat} {w w' : World} (h : Touch a b w w') (hB : B ≤ a) (hB2 : B ≤ w.heap.size) : Below B w w' :=
  ⟨h.os, h.tape, h.output, h.size, fun k hk => h.block k (by omega) (.inl (by omega))⟩
theorem owns_touch {t : TypeId} {a b : Nat} {w w' : World} {lo s n : Nat} {v : Value} {xs : List Value} (h : w.ownsRow lo t s v n xs) (ht : Touch a b w w') (hne : ∀ k, v.ownBlock = some k → k < a ∨ b ≤ k) : w'.ownsRow lo t s v n xs := by
  refine ⟨h.1, ?_⟩
  rcases h.2 with hn | ⟨g, cap, cur, rfl, hb, hg, rest⟩
  · exact .inl hn
  · refine .inr ⟨g, cap, cur, rfl, hb, ?_, rest⟩
    rw [ht.block g (World.ownsRow.lt h g rfl).2 (hne g rfl)]
    exact hg
theorem Own.touch {a b : Nat} {w w' : World} {lo : Nat} {v : Value} {zs : List Int} (h : Own w lo v zs) (ht : Touch a b w w') (hne : ∀ k, v.ownBlock = some k → k < a ∨ b ≤ k) : Own w' lo v zs := ⟨h.1, owns_touch h.2 ht hne⟩
theorem Reads.touch {a b : Nat} {w w' : World} {v : Value} {zs : List Int} (h : Reads w v zs) (ht : Touch a b w w') (hw : w.heap.size ≤ a) : Reads w' v zs := h.below (ht.below hw (Nat.le_refl _)) (Nat.le_refl _)
theorem OwnLL.touch {a b : Nat} {w w' : World} {lo hi : Nat} {v : Value} {zss : List (List Int)} (h : OwnLL w lo hi v zss) (ht : Touch a b w w') (hne : hi ≤ a ∨ b ≤ lo) : OwnLL w' lo hi v zss := by
  obtain ⟨h1, h2, us, h3, h4⟩ := h
  refine ⟨Nat.le_trans h1 ht.size, h2, us, ⟨h3.1, owns_touch h3.2 ht (fun k hk => ?_)⟩, h4.len, fun i hi => (h4.own i hi).touch ht (fun k hk => ?_), h4.top, h4.apart⟩
  · have := h2 k hk; have := (h3.lt k hk).1; omega
  · have := h4.top i hi k hk; have := ((h4.own i hi).lt k hk).1; omega
theorem OwnLL.step {w w' : World} {lo hi : Nat} {v : Value} {zss : List (List Int)} (h : OwnLL w lo hi v zss) (hb : Below w.heap.size w w') : OwnLL w' lo hi v zss := by
  obtain ⟨h1, h2, us, h3, h4⟩ := h
  exact ⟨Nat.le_trans h1 hb.size, h2, us, h3.step hb, h4.step hb⟩
theorem OwnLL.keptG {w w' : World} {lo hi : Nat} {v : Value} {zss : List (List Int)} {r : Option Nat} (h : OwnLL w lo hi v zss) (hg : w.grownBy w' r) (hne : ∀ k, r = some k → k < lo ∨ hi ≤ k) : OwnLL w' lo hi v zss := by
  obtain ⟨h1, h2, us, h3, h4⟩ := h
  refine ⟨Nat.le_trans h1 hg.size, h2, us, h3.kept hg ?_, h4.kept hg fun i hi => ?_⟩
  · cases hb : v.ownBlock with
    | none => exact .inl rfl
    | some k => right; intro e; have := hne k e.symm; have := h2 k hb; have := (h3.lt k hb).1; omega
  · cases hb : (at_ us i).ownBlock with
    | none => exact .inl rfl
    | some k => right; intro e; have := hne k e.symm; have := h4.top i hi k hb; have := ((h4.own i hi).lt k hb).1; omega

theorem own_typesV {w : World} {lo lo' : Nat} {t t' : TypeId} {v u : Value} {xs ys : List Value} (ht : t ≠ t') (h : OwnV t w lo v xs) (k : OwnV t' w lo' u ys) : v.ownBlock = none ∨ v.ownBlock ≠ u.ownBlock := own_types ht h.2 k.2
theorem own_typesI {w : World} {lo lo' : Nat} {t' : TypeId} {v u : Value} {zs : List Int} {ys : List Value} (ht : 2 ≠ t') (h : Own w lo v zs) (k : OwnV t' w lo' u ys) : v.ownBlock = none ∨ v.ownBlock ≠ u.ownBlock := own_types ht h.2 k.2
theorem own_typesR {w : World} {lo lo' : Nat} {t' : TypeId} {v u : Value} {zs : List Int} {ys : List Value} (ht : t' ≠ 2) (h : OwnV t' w lo u ys) (k : Own w lo' v zs) : u.ownBlock = none ∨ u.ownBlock ≠ v.ownBlock := own_types ht h.2 k.2
/-- A write to a slice of elements of another type. -/
theorem OwnLL.keptB {t : TypeId} {w w' : World} {lo hi lo' : Nat} {v u : Value} {zss : List (List Int)} {xs : List Value} (h : OwnLL w lo hi v zss) (hs : OwnV t w lo' u xs) (h1 : 22 ≠ t) (h2 : 2 ≠ t) (hg : w.grownBy w' u.ownBlock) : OwnLL w' lo hi v zss := by
  obtain ⟨a1, a2, us, a3, a4⟩ := h
  exact ⟨Nat.le_trans a1 hg.size, a2, us, a3.kept hg (own_typesV h1 a3 hs), a4.kept hg fun i hi => own_typesI h2 (a4.own i hi) hs⟩
theorem OwnLL.up {w : World} {lo hi : Nat} {v : Value} {zss : List (List Int)} (h : OwnLL w lo hi v zss) : OwnLL w lo w.heap.size v zss := by
  obtain ⟨a1, a2, us, a3, a4⟩ := h
  exact ⟨Nat.le_refl _, fun k hk => (a3.lt k hk).2, us, a3, a4.mono a1⟩
theorem OwnLL.snoc {w w' : World} {lo hi : Nat} {L c v' : Value} {us : List Value} {zss : List (List Int)} {cyc : List Int} (h1 : OwnV 22 w lo L us) (h4 : Fam w lo hi us zss) (hc : Own w hi c cyc) (hlo : lo ≤ hi) (hhi : hi ≤ w.heap.size)
    (hv : OwnV 22 w' lo v' (us ++ [c])) (hg : w.grownBy w' L.ownBlock) : OwnLL w' lo w'.heap.size v' (zss ++ [cyc]) := by
  have hc' : Own w' hi c cyc := hc.kept hg (own_typesI (by decide) hc h1)
  exact ⟨Nat.le_refl _, fun k hk => (hv.lt k hk).2, _, hv, (h4.kept hg (fun i hi => own_typesI (by decide) (h4.own i hi) h1)).snoc hc' hlo (Nat.le_trans hhi hg.size) (Nat.le_refl _)⟩
/-- A new slice of slices comes back. -/
def RetLL (zss : List (List Int)) (w : World) (e : Ending) (w' : World) : Prop := ∃ v, e = .returned v ∧ OwnLL w' w.heap.size w'.heap.size v zss ∧ Below w.heap.size w w'
/-- The same, and a code. -/
def RetLLC (zss : List (List Int)) (c : Int) (w : World) (e : Ending) (w' : World) : Prop := ∃ v, e = .returned (.tuple #[v, .int .i64 c]) ∧ OwnLL w' w.heap.size w'.heap.size v zss ∧ Below w.heap.size w w'
theorem made_all (n : Nat) (z : Value) (hz : z.cells = #[z]) : (madeCells #[z] n).toList = List.replicate n z := by
  apply List.ext_getElem?
  intro i
  simp only [madeCells, Array.getElem?_toList, Array.getElem?_map, List.getElem?_replicate]
  by_cases h : i < n
  · rw [if_pos h]
    simp [Array.getElem?_range, h, Nat.mod_one]
  · rw [if_neg h]
    simp [Array.getElem?_range, h]

/-! ### the cycles -/
/-- From k on, till a point is met that was seen. -/
def walkC (zs : List Int) : Nat → List Bool → List Int → Int → List Bool × List Int
  | 0, seen, c, _ => (seen, c)
  | f + 1, seen, c, k => if seen.getD k.toNat true then (seen, c) else walkC zs f (seen.set k.toNat true) (c ++ [k]) (el zs k.toNat)
theorem walkC_stop {zs : List Int} {f : Nat} {seen : List Bool} {c : List Int} {k : Int} (h : seen.getD k.toNat true = true) : walkC zs f seen c k = (seen, c) := by
  cases f with
  | zero => rfl
  | succ f => simp only [walkC]; rw [if_pos h]
theorem walkC_go {zs : List Int} {f : Nat} {seen : List Bool} {c : List Int} {k : Int} (h : seen.getD k.toNat true = false) : walkC zs (f + 1) seen c k = walkC zs f (seen.set k.toNat true) (c ++ [k]) (el zs k.toNat) := by
  simp only [walkC]; rw [if_neg (by rw [h]; simp)]
def unseen (seen : List Bool) : Nat := seen.count false
theorem unseen_set {seen : List Bool} {k : Nat} (h : seen.getD k true = false) : unseen (seen.set k true) + 1 = unseen seen ∧ k < seen.length := by
  have hk : k < seen.length := by
    apply Decidable.byContradiction; intro hh
    rw [List.getD_eq_getElem?_getD, List.getElem?_eq_none (by omega)] at h; simp at h
  have hv : seen[k] = false := by rw [List.getD_eq_getElem?_getD, List.getElem?_eq_getElem hk] at h; simpa using h
  have hm : 0 < seen.count false := List.count_pos_iff.2 (hv ▸ List.getElem_mem hk)
  refine ⟨?_, hk⟩
  unfold unseen
  rw [List.count_set hk, hv]
  simp
  omega
theorem unseen_le (seen : List Bool) : unseen seen ≤ seen.length := List.count_le_length
theorem walkC_bd {zs : List Int} : ∀ (f : Nat) (seen : List Bool) (c : List Int) (k : Int), (walkC zs f seen c k).1.length = seen.length ∧ (walkC zs f seen c k).2.length ≤ c.length + f ∧ c.length ≤ (walkC zs f seen c k).2.length
  | 0, seen, c, k => ⟨rfl, Nat.le_refl _, Nat.le_refl _⟩
  | f + 1, seen, c, k => by
    simp only [walkC]
    split
    · exact ⟨rfl, by simp, Nat.le_refl _⟩
    · have := walkC_bd (zs := zs) f (seen.set k.toNat true) (c ++ [k]) (el zs k.toNat)
      simp at this
      omega
/-- What the first i points have given: what is seen, and the cycles. -/
def cycN (zs : List Int) : Nat → List Bool × List (List Int)
  | 0 => (List.replicate zs.length false, [])
  | i + 1 => ((walkC zs zs.length (cycN zs i).1 [] i).1, if (walkC zs zs.length (cycN zs i).1 [] i).2.isEmpty then (cycN zs i).2 else (cycN zs i).2 ++ [(walkC zs zs.length (cycN zs i).1 [] i).2])
def cycL (zs : List Int) : List (List Int) := (cycN zs zs.length).2
theorem cycN_bd (zs : List Int) : ∀ i, (cycN zs i).1.length = zs.length ∧ (cycN zs i).2.length ≤ i
  | 0 => by simp [cycN]
  | i + 1 => by
    have h := cycN_bd zs i
    have h1 := (walkC_bd (zs := zs) zs.length (cycN zs i).1 [] i).1
    simp only [cycN]
    refine ⟨by omega, ?_⟩
    split
    · omega
    · simp; omega

end Go.Proofs.YtcecmjnbhppocaaDoor
