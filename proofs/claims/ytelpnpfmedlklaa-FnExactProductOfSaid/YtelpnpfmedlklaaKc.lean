/- Slices of corners and of slopes. -/
import Derived.Test.YtelpnpfmedlklaaKb
import Derived.Test.YtelpnpfmedlklaaW
import Derived.Deep.RegionHeld3
import Derived.Deep.AppendLies
namespace Go.Proofs.Ytelpnpfmedlklaa
open Go.RowKit
set_option linter.unusedVariables false
set_option linter.unusedSimpArgs false

/-! ### rows of structs -/
def RowOwn {α : Type} (t : TypeId) (sz : Nat) (cf : α → List Value) (w : World) (base : Nat) (v : Value) (L : List α) : Prop := w.ownsRow base t sz v L.length (L.flatMap cf)
theorem row_len {α : Type} {sz : Nat} {cf : α → List Value} (hs : ∀ a, (cf a).length = sz) : ∀ L : List α, (L.flatMap cf).length = L.length * sz
  | [] => by simp
  | a :: L => by rw [List.flatMap_cons, List.length_append, hs, row_len hs L, List.length_cons, Nat.add_mul]; omega
theorem row_get {α : Type} {sz : Nat} {cf : α → List Value} (hs : ∀ a, (cf a).length = sz) : ∀ (L : List α) (i j : Nat) (h : i < L.length), j < sz → (L.flatMap cf)[i * sz + j]? = (cf L[i])[j]?
  | [], i, j, h, _ => by simp at h
  | a :: L, 0, j, h, hj => by
    rw [List.flatMap_cons, List.getElem?_append_left (by rw [hs]; omega)]; simp
  | a :: L, i + 1, j, h, hj => by
    rw [List.flatMap_cons, List.getElem?_append_right (by rw [hs, Nat.add_mul]; omega), hs, show (i + 1) * sz + j - sz = i * sz + j by rw [Nat.add_mul]; omega]
    exact row_get hs L i j (by simpa using h) hj
theorem row_take {α : Type} {sz : Nat} {cf : α → List Value} (hs : ∀ a, (cf a).length = sz) : ∀ (L : List α) (m : Nat), (L.flatMap cf).take (m * sz) = (L.take m).flatMap cf
  | [], m => by simp
  | a :: L, 0 => by simp
  | a :: L, m + 1 => by
    rw [List.flatMap_cons, List.take_succ_cons, List.flatMap_cons, ← row_take hs L m, List.take_append, hs, show (m + 1) * sz - sz = m * sz by rw [Nat.add_mul]; omega]
    rw [List.take_of_length_le (by rw [hs, Nat.add_mul]; omega)]
section
variable {α : Type} {t : TypeId} {sz : Nat} {cf : α → List Value}
theorem RowOwn.kept {w w' : World} {lo : Nat} {v : Value} {L : List α} {row : Option Nat} (h : RowOwn t sz cf w lo v L) (hg : w.grownBy w' row) (hne : v.ownBlock = none ∨ v.ownBlock ≠ row) : RowOwn t sz cf w' lo v L := World.ownsRow.kept h hg hne
theorem RowOwn.step {w w' : World} {lo : Nat} {v : Value} {L : List α} (h : RowOwn t sz cf w lo v L) (hb : Below w.heap.size w w') : RowOwn t sz cf w' lo v L := by
  refine h.kept (below_grown hb) ?_
  cases v.ownBlock with
  | none => exact .inl rfl
  | some k => exact .inr (by simp)
theorem RowOwn.mono {w : World} {lo lo' : Nat} {v : Value} {L : List α} (h : RowOwn t sz cf w lo v L) (hl : lo' ≤ lo) : RowOwn t sz cf w lo' v L := by
  refine ⟨h.1, ?_⟩
  rcases h.2 with h2 | ⟨g, cap, cur, e, hg, r⟩
  · exact .inl h2
  · exact .inr ⟨g, cap, cur, e, by omega, r⟩
theorem RowOwn.nil {w : World} {lo : Nat} : RowOwn t sz cf w lo (.slice none 0 0) [] := World.ownsRow_nil _ _ _ _
theorem RowOwn.empty {w : World} {lo : Nat} (h : lo ≤ w.heap.size) : RowOwn t sz cf (w.alloc (.cells #[] t)) lo (.slice (some ⟨w.heap.size, 0, none⟩) 0 0) [] := by
  refine ⟨by simp, .inr ⟨w.heap.size, 0, #[], rfl, h, ?_, by simp, by simp [maxLen], by simp, by simp⟩⟩
  show (w.heap.push _)[w.heap.size]? = _
  simp
theorem RowOwn.lt {w : World} {lo : Nat} {v : Value} {L : List α} (h : RowOwn t sz cf w lo v L) : ∀ k, v.ownBlock = some k → lo ≤ k ∧ k < w.heap.size := World.ownsRow.lt h
theorem RowOwn.open {w : World} {lo : Nat} {v : Value} {L : List α} (h : RowOwn t sz cf w lo v L) : ∃ a cap, v = .slice a L.length cap ∧ L.length ≤ cap ∧ (∀ i, i < L.length → ∃ g, a = some ⟨g, 0, none⟩ ∧ g < w.heap.size ∧ lo ≤ g) := by
  rcases h.2 with ⟨rfl, h2⟩ | ⟨g, cap, cur, rfl, hg, hh, hc, _⟩
  · exact ⟨none, 0, by rw [h2], by omega, fun i hi => by omega⟩
  · exact ⟨some ⟨g, 0, none⟩, cap, rfl, hc, fun i _ => ⟨g, rfl, (Array.getElem?_eq_some_iff.1 hh).1, hg⟩⟩
/-- The cells of the i-th element. -/
theorem RowOwn.at {w : World} {lo g n cap : Nat} {L : List α} (h : RowOwn t sz cf w lo (.slice (some ⟨g, 0, none⟩) n cap) L) (hs : ∀ a, (cf a).length = sz) {i j : Nat} (hi : i < L.length) (hj : j < sz) : w.cell? ⟨g, i * sz + j, none⟩ = (cf L[i])[j]? := by
  have hn : n = L.length := by
    rcases h.2 with ⟨h', _⟩ | ⟨g', cap', cur, h', _⟩
    · simp at h'
    · injection h'
  subst hn
  have hlt : i * sz + j < L.length * sz := by
    have := Nat.mul_le_mul_right sz (show i + 1 ≤ L.length by omega)
    rw [Nat.add_mul] at this; omega
  rw [World.ownsRow.cellAt h _ hlt, row_get hs L i j hi hj]
theorem RowOwn.cut {w : World} {lo g n cap m : Nat} {L : List α} (h : RowOwn t sz cf w lo (.slice (some ⟨g, 0, none⟩) n cap) L) (hs : ∀ a, (cf a).length = sz) (hm : m ≤ n) : RowOwn t sz cf w lo (.slice (some ⟨g, 0, none⟩) m cap) (L.take m) := by
  rcases h.2 with ⟨h', _⟩ | ⟨g', cap', cur, h', hg, hh, hc, hmx, hsz, ht⟩
  · simp at h'
  · injection h' with e1 e2 e3
    injection e1 with e1
    injection e1 with e4 _ _
    subst e3 e4 e2
    have hl : (L.take m).length = m := by rw [List.length_take]; omega
    refine ⟨row_len hs _, .inr ⟨g, cap, cur, by rw [hl], hg, hh, by omega, hmx, hsz, ?_⟩⟩
    rw [hl, ← row_take hs, ← ht, List.take_take]
    congr 1
    exact (Nat.min_eq_left (Nat.mul_le_mul_right sz hm)).symm
end
theorem cells_new {w : World} {arr : Array Value} {t : TypeId} (j : Nat) (u : Value) (h : arr.toList[j]? = some u) : (w.alloc (.cells arr t)).cell? ((⟨w.heap.size, 0, none⟩ : Addr).add j) = some u := by
  rw [Addr.add_lit, Nat.zero_add]
  simpa using h
/-- 'append(out, T{..})': out a slice of the call's own. -/
theorem append_row {α : Type} {ops : Array Oper} {rest : List Oper} {o : Oper} {a : Act} {Q : Exit → Act → World → Prop} {T e : TypeId} {z : Value} {sz bytes : Nat} {cf : α → List Value}
    (hinf : (Try.prog.info? e).map (fun i => (i.zero, i.size, i.bytes)) = some (some z, sz, bytes)) (hu : Try.prog.underlying T = some (.slice e)) (hzs : z.cells.size = sz) (hsz : 0 < sz) (hby : bytes ≤ 64) (hs : ∀ a, (cf a).length = sz) (h1 : ∀ a, ∀ u ∈ cf a, u.oneCell' = true)
    (wr : World) (hgd : o.guard = none) (s x : Operand)
    (ho : o.op = .call { callee := .builtin .append, args := #[s, x], argTypes := #[T, T] }) {lo : Nat} {v : Value} {L : List α} {n : α} {arr : Array Value} {t' : TypeId} (harr : arr.toList = cf n) (hv : a.eval s = v) (hown : RowOwn e sz cf wr lo v L)
    (hlen : L.length ≤ 1000000) (hlo : lo ≤ wr.heap.size) {nb : Nat} (hnb : nb = wr.heap.size) (hx : a.eval x = .slice (some ⟨nb, 0, none⟩) 1 1)
    (h : ∀ v' w', RowOwn e sz cf w' lo v' (L ++ [n]) → wr.grownBy w' v.ownBlock → Below lo wr w' → wpList Try.prog ops Q rest (a.put o.dst v') w') : wpList Try.prog ops Q (o :: rest) a (wr.alloc (.cells arr t')) := by
  subst hnb
  obtain ⟨i0, hi, hz0, hz1, hz2⟩ := info_parts hinf
  have hby2 : (L.length + 1) * bytes ≤ 140737488355328 := by
    have := Nat.mul_le_mul (show L.length + 1 ≤ 1000001 by omega) hby
    omega
  refine wpList_append_own _ hgd s x T ho lo e i0 z sz bytes hu hi hz0 hz1 hz2 hzs hsz v L.length (L.flatMap cf) hv (World.ownsRow.alloc hown _) ⟨wr.heap.size, 0, none⟩ 1 1 (cf n) hx (by rw [hs, Nat.one_mul]) (fun j u hu => cells_new j u (by rw [harr]; exact hu)) (h1 n) (by unfold maxLen; omega) hby2 (by simp; omega) ?_
  intro v' w' h1 h2 _
  have hg : wr.grownBy w' v.ownBlock := grown_trans (World.grownBy_alloc _ _ _) h2
  refine h v' w' (by unfold RowOwn; rw [List.length_append, List.flatMap_append]; simpa using h1) hg ?_
  exact (Below.refl _ _).grown hg hlo (fun k hk => (hown.lt k hk).1)
/-- The same as one step of a region that draws. -/
theorem step_append_row {α : Type} {ops : Array Oper} {o : Oper} {a : Act} {w : World} {K : Act → World → Prop} {Q : Exit → Act → World → Prop} {E : Prop} {T e : TypeId} {z : Value} {sz bytes : Nat} {cf : α → List Value}
    (hinf : (Try.prog.info? e).map (fun i => (i.zero, i.size, i.bytes)) = some (some z, sz, bytes)) (hu : Try.prog.underlying T = some (.slice e)) (hzs : z.cells.size = sz) (hsz : 0 < sz) (hby : bytes ≤ 64) (hs : ∀ a, (cf a).length = sz) (h1 : ∀ a, ∀ u ∈ cf a, u.oneCell' = true)
    (hgd : o.guard = none) (s x : Operand)
    (ho : o.op = .call { callee := .builtin .append, args := #[s, x], argTypes := #[T, T] }) {lo nb : Nat} {v : Value} {L : List α} {n : α} (hv : a.eval s = v) (hown : RowOwn e sz cf w lo v L)
    (hx : a.eval x = .slice (some ⟨nb, 0, none⟩) 1 1) (hnew : ∀ j u, (cf n)[j]? = some u → w.cell? ⟨nb, j, none⟩ = some u) (hlen : L.length ≤ 1000000) (hlo : lo ≤ w.heap.size)
    (h : ∀ v' w', RowOwn e sz cf w' lo v' (L ++ [n]) → w.grownBy w' v.ownBlock → Below lo w w' → K (a.put o.dst v') w') : if Region.wanted o (yielded ops a.tmps) = true then Oper.wp Try.prog o a w K Q else E := by
  have hw : Region.wanted o (yielded ops a.tmps) = true := by simp [Region.wanted, hgd]
  rw [if_pos hw]
  obtain ⟨i0, hi, hz0, hz1, hz2⟩ := info_parts hinf
  have hby2 : (L.length + 1) * bytes ≤ 140737488355328 := by
    have := Nat.mul_le_mul (show L.length + 1 ≤ 1000001 by omega) hby
    omega
  refine wp_append_own _ s x T ho lo e i0 z sz bytes hu hi hz0 hz1 hz2 hzs hsz v L.length (L.flatMap cf) hv hown ⟨nb, 0, none⟩ 1 1 (cf n) hx (by rw [hs, Nat.one_mul]) (fun j u hu => by rw [Addr.add_lit, Nat.zero_add]; exact hnew j u hu) (h1 n) (by unfold maxLen; omega) hby2 hlo ?_
  intro v' w' h1 h2 _
  refine h v' w' (by unfold RowOwn; rw [List.length_append, List.flatMap_append]; simpa using h1) h2 ?_
  exact (Below.refl _ _).grown h2 hlo (fun k hk => (hown.lt k hk).1)

/-! ### corners, slopes -/
def cC (c : Int × Int) : List Value := [.int .i64 c.1, .int .i64 c.2]
def cS (s : Int × Int × Int) : List Value := [.int .i64 s.1, .int .i64 s.2.1, .int .i64 s.2.2]
theorem cC_len (c : Int × Int) : (cC c).length = 2 := rfl
theorem cS_len (c : Int × Int × Int) : (cS c).length = 3 := rfl
theorem cC_one (c : Int × Int) : ∀ u ∈ cC c, u.oneCell' = true := by intro u hu; simp [cC] at hu; rcases hu with rfl | rfl <;> rfl
theorem cS_one (c : Int × Int × Int) : ∀ u ∈ cS c, u.oneCell' = true := by intro u hu; simp [cS] at hu; rcases hu with rfl | rfl | rfl <;> rfl
end Go.Proofs.Ytelpnpfmedlklaa
