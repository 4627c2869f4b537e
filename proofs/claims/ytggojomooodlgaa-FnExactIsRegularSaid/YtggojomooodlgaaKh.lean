/- Contract: the program's residual polynomials. -/
import Derived.Test.YtggojomooodlgaaKg
import Derived.Test.YtggojomooodlgaaTp
import Derived.Deep.RegionWith
import Derived.Deep.CutRange
namespace Go.Proofs.Ytggojomooodlgaa
open Go.RowKit
set_option linter.unusedVariables false
set_option linter.unusedSimpArgs false

theorem new_CS (w : World) (x1 y1 x2 y2 z2 : Value) (t t' : TypeId) : Below w.heap.size w ((w.alloc (.cells #[x1, y1] t)).alloc (.cells #[x2, y2, z2] t')).drew ∧ w.heap.size + 2 = ((w.alloc (.cells #[x1, y1] t)).alloc (.cells #[x2, y2, z2] t')).drew.heap.size ∧
    ((w.alloc (.cells #[x1, y1] t)).alloc (.cells #[x2, y2, z2] t')).drew.cell? ⟨w.heap.size, 0, none⟩ = some x1 ∧ ((w.alloc (.cells #[x1, y1] t)).alloc (.cells #[x2, y2, z2] t')).drew.cell? ⟨w.heap.size, 1, none⟩ = some y1 ∧
    ((w.alloc (.cells #[x1, y1] t)).alloc (.cells #[x2, y2, z2] t')).drew.cell? ⟨w.heap.size + 1, 0, none⟩ = some x2 ∧ ((w.alloc (.cells #[x1, y1] t)).alloc (.cells #[x2, y2, z2] t')).drew.cell? ⟨w.heap.size + 1, 1, none⟩ = some y2 ∧ ((w.alloc (.cells #[x1, y1] t)).alloc (.cells #[x2, y2, z2] t')).drew.cell? ⟨w.heap.size + 1, 2, none⟩ = some z2 := by
  have h1 : Below (w.alloc (.cells #[x1, y1] t)).heap.size (w.alloc (.cells #[x1, y1] t)) ((w.alloc (.cells #[x1, y1] t)).alloc (.cells #[x2, y2, z2] t')).drew := ((Below.refl _ _).alloc (Nat.le_refl _) _).drew
  have c1 : (w.alloc (.cells #[x1, y1] t)).cell? ⟨w.heap.size, 0, none⟩ = some x1 := by simp
  have c2 : (w.alloc (.cells #[x1, y1] t)).cell? ⟨w.heap.size, 1, none⟩ = some y1 := by simp
  refine ⟨(below_box (.cells #[x1, y1] t)).trans (h1.mono (by simp)), by simp, ?_, ?_, ?_, ?_, ?_⟩
  · exact (h1.cell (p := ⟨w.heap.size, 0, none⟩) (by simp)).trans c1
  · exact (h1.cell (p := ⟨w.heap.size, 1, none⟩) (by simp)).trans c2
  all_goals simp
theorem new_SC (w : World) (x1 y1 x2 y2 z2 : Value) (t t' : TypeId) : Below w.heap.size w ((w.alloc (.cells #[x2, y2, z2] t')).alloc (.cells #[x1, y1] t)).drew ∧ w.heap.size + 2 = ((w.alloc (.cells #[x2, y2, z2] t')).alloc (.cells #[x1, y1] t)).drew.heap.size ∧
    ((w.alloc (.cells #[x2, y2, z2] t')).alloc (.cells #[x1, y1] t)).drew.cell? ⟨w.heap.size + 1, 0, none⟩ = some x1 ∧ ((w.alloc (.cells #[x2, y2, z2] t')).alloc (.cells #[x1, y1] t)).drew.cell? ⟨w.heap.size + 1, 1, none⟩ = some y1 ∧
    ((w.alloc (.cells #[x2, y2, z2] t')).alloc (.cells #[x1, y1] t)).drew.cell? ⟨w.heap.size, 0, none⟩ = some x2 ∧ ((w.alloc (.cells #[x2, y2, z2] t')).alloc (.cells #[x1, y1] t)).drew.cell? ⟨w.heap.size, 1, none⟩ = some y2 ∧ ((w.alloc (.cells #[x2, y2, z2] t')).alloc (.cells #[x1, y1] t)).drew.cell? ⟨w.heap.size, 2, none⟩ = some z2 := by
  have h1 : Below (w.alloc (.cells #[x2, y2, z2] t')).heap.size (w.alloc (.cells #[x2, y2, z2] t')) ((w.alloc (.cells #[x2, y2, z2] t')).alloc (.cells #[x1, y1] t)).drew := ((Below.refl _ _).alloc (Nat.le_refl _) _).drew
  have c1 : (w.alloc (.cells #[x2, y2, z2] t')).cell? ⟨w.heap.size, 0, none⟩ = some x2 := by simp
  have c2 : (w.alloc (.cells #[x2, y2, z2] t')).cell? ⟨w.heap.size, 1, none⟩ = some y2 := by simp
  have c3 : (w.alloc (.cells #[x2, y2, z2] t')).cell? ⟨w.heap.size, 2, none⟩ = some z2 := by simp
  refine ⟨(below_box (.cells #[x2, y2, z2] t')).trans (h1.mono (by simp)), by simp, by simp, by simp, ?_, ?_, ?_⟩
  · exact (h1.cell (p := ⟨w.heap.size, 0, none⟩) (by simp)).trans c1
  · exact (h1.cell (p := ⟨w.heap.size, 1, none⟩) (by simp)).trans c2
  · exact (h1.cell (p := ⟨w.heap.size, 2, none⟩) (by simp)).trans c3

/-- What both walks need of a piece. -/
theorem piece {p : Int} {f : List Int} {i : Nat} (hp : 2 ≤ p) (hf : Bd 1000000 f) (hl : f.length ≤ 9) (hi : i + 1 < (polA p f).length) :
    ∃ (m : Nat) (Ax Ay r1 r2 r3 : Int) (d : Nat), (polA p f).length = m ∧ (sloA p f).length = m - 1 ∧ i < m - 1 ∧ m ≤ 9 ∧ ptG (polA p f) i = (Ax, Ay) ∧ (sloA p f)[i]? = some (r1, r2, r3) ∧
      resA p f i = resN p f (Ax, Ay) (r1, r2, r3) (d + 1) ∧ trimL (resN p f (Ax, Ay) (r1, r2, r3) (d + 1)) = resN p f (Ax, Ay) (r1, r2, r3) (d + 1) ∧
      (∀ j : Nat, j ≤ d → 0 ≤ Ax + j * r2 ∧ Ax + j * r2 < f.length ∧ 0 ≤ Ay + j * r1 ∧ Ay + j * r1 ≤ 1000000 ∧ p ^ (Ay + j * r1).toNat ≤ 1000000) ∧
      r2 * d = r3 ∧ 1 ≤ r2 ∧ 1 ≤ d ∧ d ≤ 9 ∧ r3 ≤ 9 ∧ (0 ≤ Ax ∧ Ax ≤ 9) ∧ (0 ≤ Ay ∧ Ay ≤ 1000000) ∧ (-1000000 ≤ r1 ∧ r1 ≤ 1000000) := by
  have hrt := res_trim hp hi
  obtain ⟨hok, hri, hln⟩ := polA_ok p f
  have hA := hok _ (ptG_mem (show i < (polA p f).length by omega))
  have hB := hok _ (ptG_mem hi)
  have hAb := hA.bd hp hf
  have hBb := hB.bd hp hf
  have hrx := ptG_rise hri (show i < i + 1 by omega) hi
  obtain ⟨s1, s2, s3, s4, s5, _, _⟩ := slp_facts hrx
  have hsl := sloL_len (polA p f) ((polA p f).length - 1)
  have ha1 := hA.1
  have ha2 := hA.2.1
  have hb2 := hB.2.1
  have hb1 := hB.1
  refine ⟨_, (ptG (polA p f) i).1, (ptG (polA p f) i).2, (slpV (ptG (polA p f) i) (ptG (polA p f) (i + 1))).1, (slpV (ptG (polA p f) i) (ptG (polA p f) (i + 1))).2.1, (slpV (ptG (polA p f) i) (ptG (polA p f) (i + 1))).2.2,
    Int.gcd ((ptG (polA p f) (i + 1)).2 - (ptG (polA p f) i).2) ((ptG (polA p f) (i + 1)).1 - (ptG (polA p f) i).1), rfl, hsl, by omega, by omega, rfl, ?_, rfl, hrt, fun j hj => seg_facts hp hf hi rfl hj, s4, s5, by omega, by omega, ?_, ⟨ha1, by omega⟩, ⟨hAb.1, hAb.2.1⟩, bd_mul s1 ⟨by omega, by omega⟩⟩
  · have hlt : i < (sloA p f).length := by rw [show (sloA p f).length = _ from hsl]; omega
    rw [List.getElem?_eq_getElem hlt]
    exact congrArg some (sloL_get _ _ i hlt)
  · show (ptG (polA p f) (i + 1)).1 - (ptG (polA p f) i).1 ≤ 9
    omega
theorem OwnS.atO {w : World} {lo g n cap : Nat} {L : List (Int × Int × Int)} (h : OwnS w lo (.slice (some ⟨g, 0, none⟩) n cap) L) {i : Nat} {a b c : Int} (hi : L[i]? = some (a, b, c)) : w.cell? ⟨g, i * 3, none⟩ = some (.int .i64 a) ∧ w.cell? ⟨g, i * 3 + 1, none⟩ = some (.int .i64 b) ∧ w.cell? ⟨g, i * 3 + 2, none⟩ = some (.int .i64 c) := by
  obtain ⟨hlt, e⟩ := List.getElem?_eq_some_iff.1 hi
  have := h.at hlt
  rw [e] at this
  exact this

theorem below_upK {B : Nat} {w0 W w1 : World} (h : Below W.heap.size W w1) (hB : B ≤ W.heap.size) (h0 : Below B w0 W) : Below B w0 w1 := h0.trans (h.mono hB)
theorem rest_of {W w1 : World} {b o : Nat} {v : Option Value} (hb : W.heap.size ≤ b) (hc : ∀ b o, w1.cell? ⟨b, o, none⟩ = if b < W.heap.size then W.cell? ⟨b, o, none⟩ else cellRest w1 b o) (h : w1.cell? ⟨b, o, none⟩ = v) : cellRest w1 b o = v := by
  rw [← h, hc, if_neg (by omega)]
theorem tmod_neK (a b : Int) : (a.tmod b != 0) = (a % b != 0) := by
  rw [Bool.eq_iff_iff]
  simp [tmod_zero]

/-! ### posts of operations -/
def Stable (φ : Value → World → Prop) : Prop := ∀ v w1 w2, φ v w1 → Below w1.heap.size w1 w2 → φ v w2
def pEq (x : Value) : Value → World → Prop := fun v _ => v = x
theorem pEq_st (x : Value) : Stable (pEq x) := fun _ _ _ h _ => h
/-- A slice whose elements are boxes of two; one of them is told. -/
def pRow2 (lo n i : Nat) (x y : Value) : Value → World → Prop := fun v w => ∃ g c, v = .slice (some ⟨g, 0, none⟩) n c ∧ g < w.heap.size ∧ lo ≤ g ∧ w.cell? ⟨g, i * 2, none⟩ = some x ∧ w.cell? ⟨g, i * 2 + 1, none⟩ = some y
theorem pRow2_st (lo n i : Nat) (x y : Value) : Stable (pRow2 lo n i x y) := fun v w1 w2 ⟨g, c, h1, h2, h0, h3, h4⟩ hb =>
  ⟨g, c, h1, Nat.lt_of_lt_of_le h2 hb.size, h0, (hb.cell (p := ⟨g, i * 2, none⟩) h2).trans h3, (hb.cell (p := ⟨g, i * 2 + 1, none⟩) h2).trans h4⟩
def pAt2 (i : Nat) (x y : Value) : Value → World → Prop := fun v w => ∃ g, v = .pointer (some ⟨g, i * 2, none⟩) ∧ g < w.heap.size ∧ w.cell? ⟨g, i * 2, none⟩ = some x ∧ w.cell? ⟨g, i * 2 + 1, none⟩ = some y
theorem pAt2_st (i : Nat) (x y : Value) : Stable (pAt2 i x y) := fun v w1 w2 ⟨g, h1, h2, h3, h4⟩ hb =>
  ⟨g, h1, Nat.lt_of_lt_of_le h2 hb.size, (hb.cell (p := ⟨g, i * 2, none⟩) h2).trans h3, (hb.cell (p := ⟨g, i * 2 + 1, none⟩) h2).trans h4⟩
def pRow3 (lo n i : Nat) (x y z : Value) : Value → World → Prop := fun v w => ∃ g c, v = .slice (some ⟨g, 0, none⟩) n c ∧ g < w.heap.size ∧ lo ≤ g ∧ w.cell? ⟨g, i * 3, none⟩ = some x ∧ w.cell? ⟨g, i * 3 + 1, none⟩ = some y ∧ w.cell? ⟨g, i * 3 + 2, none⟩ = some z
theorem pRow3_st (lo n i : Nat) (x y z : Value) : Stable (pRow3 lo n i x y z) := fun v w1 w2 ⟨g, c, h1, h2, h0, h3, h4, h5⟩ hb =>
  ⟨g, c, h1, Nat.lt_of_lt_of_le h2 hb.size, h0, (hb.cell (p := ⟨g, i * 3, none⟩) h2).trans h3, (hb.cell (p := ⟨g, i * 3 + 1, none⟩) h2).trans h4, (hb.cell (p := ⟨g, i * 3 + 2, none⟩) h2).trans h5⟩
def pAt3 (i : Nat) (x y z : Value) : Value → World → Prop := fun v w => ∃ g, v = .pointer (some ⟨g, i * 3, none⟩) ∧ g < w.heap.size ∧ w.cell? ⟨g, i * 3, none⟩ = some x ∧ w.cell? ⟨g, i * 3 + 1, none⟩ = some y ∧ w.cell? ⟨g, i * 3 + 2, none⟩ = some z
theorem pAt3_st (i : Nat) (x y z : Value) : Stable (pAt3 i x y z) := fun v w1 w2 ⟨g, h1, h2, h3, h4, h5⟩ hb =>
  ⟨g, h1, Nat.lt_of_lt_of_le h2 hb.size, (hb.cell (p := ⟨g, i * 3, none⟩) h2).trans h3, (hb.cell (p := ⟨g, i * 3 + 1, none⟩) h2).trans h4, (hb.cell (p := ⟨g, i * 3 + 2, none⟩) h2).trans h5⟩
/-- A box that has just been made. -/
def pNew (lo : Nat) (c : Array Value) (t : TypeId) : Value → World → Prop := fun v w => ∃ b, v = .pointer (some ⟨b, 0, none⟩) ∧ lo ≤ b ∧ b < w.heap.size ∧ w.heap[b]? = some (.cells c t)
theorem pNew_st (lo : Nat) (c : Array Value) (t : TypeId) : Stable (pNew lo c t) := fun v w1 w2 ⟨b, h1, h2, h3, h4⟩ hb => ⟨b, h1, h2, Nat.lt_of_lt_of_le h3 hb.size, (hb.block b h3).trans h4⟩
theorem heap_cells {w : World} {b : Nat} {c : Array Value} {t : TypeId} (h : w.heap[b]? = some (.cells c t)) (o : Nat) : w.cell? ⟨b, o, none⟩ = c[o]? ∧ w.frozen? ⟨b, o, none⟩ = false := by
  constructor
  · simp [World.cell?, h]
  · simp [World.frozen?, h]
theorem heap_two {w : World} {b : Nat} {u v x y : Value} {t : TypeId} (h : w.heap[b]? = some (.cells #[u, v] t)) : ((w.setCell ⟨b, 0, none⟩ x).setCell ⟨b, 1, none⟩ y).heap[b]? = some (.cells #[x, y] t) := by
  simp [World.setCell, Array.getElem?_modify, h]
theorem heap_three {w : World} {b : Nat} {u v z x y q : Value} {t : TypeId} (h : w.heap[b]? = some (.cells #[u, v, z] t)) : (((w.setCell ⟨b, 0, none⟩ x).setCell ⟨b, 1, none⟩ y).setCell ⟨b, 2, none⟩ q).heap[b]? = some (.cells #[x, y, q] t) := by
  simp [World.setCell, Array.getElem?_modify, h]
theorem below_two {w : World} {b B : Nat} {x y : Value} (h : B ≤ b) : Below B w ((w.setCell ⟨b, 0, none⟩ x).setCell ⟨b, 1, none⟩ y) := ((Below.refl _ _).setCell h _).setCell h _
theorem cell_two {w : World} {b g o : Nat} {x y : Value} (h : g ≠ b) : ((w.setCell ⟨b, 0, none⟩ x).setCell ⟨b, 1, none⟩ y).cell? ⟨g, o, none⟩ = w.cell? ⟨g, o, none⟩ :=
  World.cell?_of_block (w := w) ((Below.heap_setCell _ _ _ _ h).trans (Below.heap_setCell _ _ _ _ h))
/-- A box of two is no row of boxes of three, and no box of three. -/
theorem keep_row3 {w : World} {b lo n i : Nat} {u v x y p q r : Value} {t : TypeId} (h : w.heap[b]? = some (.cells #[u, v] t)) {z : Value} (hp : pRow3 lo n i p q r z w) : pRow3 lo n i p q r z ((w.setCell ⟨b, 0, none⟩ x).setCell ⟨b, 1, none⟩ y) := by
  obtain ⟨g, c, h1, h2, h0, h3, h4, h5⟩ := hp
  have hne : g ≠ b := by
    rintro rfl
    rw [(heap_cells h _).1, Array.getElem?_eq_none (by simp)] at h5
    cases h5
  exact ⟨g, c, h1, by simpa [World.setCell] using h2, h0, (cell_two hne).trans h3, (cell_two hne).trans h4, (cell_two hne).trans h5⟩
theorem keep_at3 {w : World} {b i : Nat} {u v x y p q r : Value} {t : TypeId} (h : w.heap[b]? = some (.cells #[u, v] t)) {z : Value} (hp : pAt3 i p q r z w) : pAt3 i p q r z ((w.setCell ⟨b, 0, none⟩ x).setCell ⟨b, 1, none⟩ y) := by
  obtain ⟨g, h1, h2, h3, h4, h5⟩ := hp
  have hne : g ≠ b := by
    rintro rfl
    rw [(heap_cells h _).1, Array.getElem?_eq_none (by simp)] at h5
    cases h5
  exact ⟨g, h1, by simpa [World.setCell] using h2, (cell_two hne).trans h3, (cell_two hne).trans h4, (cell_two hne).trans h5⟩
theorem keep_new3 {w : World} {b lo : Nat} {u v x y p q r : Value} {t t' : TypeId} (h : w.heap[b]? = some (.cells #[u, v] t)) {z : Value} (hp : pNew lo #[p, q, r] t' z w) : pNew lo #[p, q, r] t' z ((w.setCell ⟨b, 0, none⟩ x).setCell ⟨b, 1, none⟩ y) := by
  obtain ⟨g, h1, h2, h3, h4⟩ := hp
  have hne : g ≠ b := by
    rintro rfl
    rw [h] at h4
    simp at h4
  exact ⟨g, h1, h2, by simpa [World.setCell] using h3, ((Below.heap_setCell _ _ _ _ hne).trans (Below.heap_setCell _ _ _ _ hne)).trans h4⟩
theorem forall_two {p : (Value → World → Prop) → Prop} {φ : Value → World → Prop} {l : List (Value → World → Prop)} (h : p φ) (hl : ∀ ψ ∈ l, p ψ) : ∀ ψ ∈ φ :: l, p ψ := by
  intro ψ hψ
  rcases List.mem_cons.1 hψ with rfl | h'
  · exact h
  · exact hl _ h'
theorem forall_nil {p : (Value → World → Prop) → Prop} : ∀ ψ ∈ ([] : List (Value → World → Prop)), p ψ := fun _ h => by cases h

set_option maxHeartbeats 8000000 in
set_option maxRecDepth 100000 in
theorem residualOf_any {p : Int} {v : Value} {f : List Int} {i : Nat} {w : World} (h : Reads w v f) (hp : 2 ≤ p ∧ p ≤ 97) (hf : Bd 1000000 f) (hl : f.length ≤ 9) (hi : i + 1 < (polA p f).length) :
    Calls Try.prog 21 #[.int .i64 p, v, .int .i64 (i : Int)] w (RetInts (resA p f i) w) := by
  have HPG := Lib.hid (fun (v : Value) (w : World) (hR : Reads w v f) => polygon_any hR hp hf hl)
  have HSL := Lib.hid (fun (v : Value) (w : World) (hR : Reads w v f) => slopes_any hR hp hf hl)
  obtain ⟨m, Ax, Ay, r1, r2, r3, d, hm, hsm, hi1, hm9, hga, hgs, hra, hrt, hseg, q1, q2, q3, q4, q5, ⟨q6, q7⟩, ⟨q8, q9⟩, ⟨q10, q11⟩⟩ := piece hp.1 hf hl hi
  rw [hra]
  obtain ⟨C, hC⟩ : ∃ C, polA p f = C := ⟨_, rfl⟩
  obtain ⟨SL, hSL⟩ : ∃ SL, sloA p f = SL := ⟨_, rfl⟩
  rw [hC] at HPG hm hga hi
  rw [hSL] at HSL hsm hgs
  rw [hm] at hi
  obtain ⟨a, cap, rfl, h1, h2⟩ := reads_nil_eq h
  obtain ⟨N, hN⟩ : ∃ N, f.length = N := ⟨_, rfl⟩
  rw [hN] at h h1 hl hseg ⊢
  have HN := Lib.hid hN
  have HR := Lib.hid h
  have HF := Lib.hid hf
  have HM := Lib.hid hm
  have HGA := Lib.hid hga
  have HSM := Lib.hid hsm
  have HGS := Lib.hid hgs
  have HSEG := Lib.hid hseg
  have HRT := Lib.hid hrt
  have J1 : (0 : Int) ≤ (i : Int) := by omega
  have J2 : (i : Int) < (m : Int) := by omega
  have J3 : i < m := by omega
  have J4 : (i : Int) < ((m - 1 : Nat) : Int) := by omega
  obtain ⟨m', hm'⟩ : ∃ m', m - 1 = m' := ⟨_, rfl⟩
  rw [hm'] at hi1 HSM J4
  clear h h2 hN hm hga hsm hgs hseg hrt hra hf hC hSL hm'
  go_enter Try.func21, Try.ntmps21
  go_upto_region 1 with fail
  refine wp_region_store 15 14 12 [true, true, false, true, false, true, true, true, true, true, true, true, false, true, false] [pEq (.int .i64 p), pEq (.slice a N cap), pRow2 w.heap.size m i (.int .i64 Ax) (.int .i64 Ay), pEq (.int .i64 (i : Int)), pAt2 i (.int .i64 Ax) (.int .i64 Ay), pEq (.agg #[.int .i64 Ax, .int .i64 Ay]), pEq (.int .i64 p), pEq (.slice a N cap), pRow3 w.heap.size m' i (.int .i64 r1) (.int .i64 r2) (.int .i64 r3), pEq (.int .i64 (i : Int)), pAt3 i (.int .i64 r1) (.int .i64 r2) (.int .i64 r3), pEq (.agg #[.int .i64 r1, .int .i64 r2, .int .i64 r3]), pNew w.heap.size #[.int .i64 0, .int .i64 0] 46, pNew w.heap.size #[.int .i64 0, .int .i64 0, .int .i64 0] 39] (pNew w.heap.size #[.int .i64 Ax, .int .i64 Ay] 46) (by kernel_rfl) (by kernel_rfl)
    (forall_two (pEq_st _) (forall_two (pEq_st _) (forall_two (pRow2_st _ _ _ _ _) (forall_two (pEq_st _) (forall_two (pAt2_st _ _ _) (forall_two (pEq_st _) (forall_two (pEq_st _) (forall_two (pEq_st _) (forall_two (pRow3_st _ _ _ _ _ _) (forall_two (pEq_st _) (forall_two (pAt3_st _ _ _ _) (forall_two (pEq_st _) (forall_two (pNew_st _ _ _) (forall_two (pNew_st _ _ _) forall_nil)))))))))))))) (pNew_st _ _ _) ?_ ?_ ?_
  · simp only [List.take_succ_cons, List.take_zero, List.map_cons, List.map_nil, stepsBut]
    refine ⟨?_, ?_, ?_, ?_, ?_, ?_, ?_, ?_, ?_, ?_, ?_, ?_, ?_, ?_, ?_, trivial⟩
    all_goals first | exact trivial | skip
    all_goals
      rw [if_neg (by decide)]
      intro X w' K hb hd hK
      simp only [puts] at hK ⊢
    · clear hd
      simp [go_sem] at hK
      constructor
      go_simp
      have hq : pEq (.int .i64 p) (.int .i64 p) w' := rfl
      have hq2 := hK _ _ (Below.refl _ _) hq
      exact hq2
    · clear hd
      simp [go_sem] at hK
      constructor
      go_simp
      have hq : pEq (.slice a N cap) (.slice a N cap) w' := rfl
      have hq2 := hK _ _ (Below.refl _ _) hq
      exact hq2
    · have e0 : X 0 = .int .i64 p := hd 0 (by kernel_rfl)
      have e1 : X 1 = .slice a N cap := hd 1 (by kernel_rfl)
      clear hd
      simp [go_sem, e0, e1] at hK
      constructor
      go_simp
      refine (HPG.out _ _ (HR.out.step hb)).mono ?_
      rintro e5 w5 ⟨v5, rfl, o5, b5⟩
      obtain ⟨a5, c5, rfl, k5, q5'⟩ := OwnC.open o5
      rw [HM.out] at o5 k5 q5' ⊢
      obtain ⟨g5, rfl, g51, g52⟩ := q5' i J3
      obtain ⟨x1, x2⟩ := o5.at (i := i) (by rw [HM.out]; exact J3)
      rw [HGA.out] at x1 x2
      clear o5 q5'
      go_simp
      have hs := hb.size
      have hq : pRow2 w.heap.size m i (.int .i64 Ax) (.int .i64 Ay) (.slice (some ⟨g5, 0, none⟩) m c5) w5 := ⟨g5, c5, rfl, g51, by omega, x1, x2⟩
      have hq2 := hK _ _ b5 hq
      exact hq2
    · clear hd
      simp [go_sem] at hK
      constructor
      go_simp
      have hq : pEq (.int .i64 (i : Int)) (.int .i64 (i : Int)) w' := rfl
      have hq2 := hK _ _ (Below.refl _ _) hq
      exact hq2
    · have hr : pRow2 w.heap.size m i (.int .i64 Ax) (.int .i64 Ay) (X 2) w' := hd 2 (by kernel_rfl)
      refine Exists.elim hr fun g hr => Exists.elim hr fun c hr => ?_
      have e2 := hr.1
      have h1 := hr.2.1
      have h2 := hr.2.2.2.1
      have h3 := hr.2.2.2.2
      clear hr
      have e3 : X 3 = .int .i64 (i : Int) := hd 3 (by kernel_rfl)
      clear hd
      simp [go_sem, e2, e3] at hK
      constructor
      go_simp
      have hq : pAt2 i (.int .i64 Ax) (.int .i64 Ay) (.pointer (some ⟨g, i * 2, none⟩)) w' := ⟨g, rfl, h1, h2, h3⟩
      have hq2 := hK _ _ (Below.refl _ _) hq
      exact hq2
    · have hr : pAt2 i (.int .i64 Ax) (.int .i64 Ay) (X 4) w' := hd 4 (by kernel_rfl)
      refine Exists.elim hr fun g hr => ?_
      have e2 := hr.1
      have h1 := hr.2.1
      have h2 := hr.2.2.1
      have h3 := hr.2.2.2
      clear hr
      clear hd
      simp [go_sem, e2] at hK
      constructor
      go_simp
      have hq : pEq (.agg #[.int .i64 Ax, .int .i64 Ay]) (.agg #[.int .i64 Ax, .int .i64 Ay]) w' := rfl
      have hq2 := hK _ _ (Below.refl _ _) hq
      exact hq2
    · clear hd
      simp [go_sem] at hK
      constructor
      go_simp
      have hq : pEq (.int .i64 p) (.int .i64 p) w' := rfl
      have hq2 := hK _ _ (Below.refl _ _) hq
      exact hq2
    · clear hd
      simp [go_sem] at hK
      constructor
      go_simp
      have hq : pEq (.slice a N cap) (.slice a N cap) w' := rfl
      have hq2 := hK _ _ (Below.refl _ _) hq
      exact hq2
    · have e0 : X 6 = .int .i64 p := hd 6 (by kernel_rfl)
      have e1 : X 7 = .slice a N cap := hd 7 (by kernel_rfl)
      clear hd
      simp [go_sem, e0, e1] at hK
      constructor
      go_simp
      refine (HSL.out _ _ (HR.out.step hb)).mono ?_
      rintro e6 w6 ⟨v6, rfl, o6, b6⟩
      obtain ⟨a6, c6, rfl, k6, q6'⟩ := OwnS.open o6
      rw [HSM.out] at o6 k6 q6' ⊢
      obtain ⟨g6, rfl, g61, g62⟩ := q6' i hi1
      obtain ⟨z1, z2, z3⟩ := o6.atO HGS.out
      clear o6 q6'
      go_simp
      have hs := hb.size
      have hq : pRow3 w.heap.size m' i (.int .i64 r1) (.int .i64 r2) (.int .i64 r3) (.slice (some ⟨g6, 0, none⟩) m' c6) w6 := ⟨g6, c6, rfl, g61, by omega, z1, z2, z3⟩
      have hq2 := hK _ _ b6 hq
      exact hq2
    · clear hd
      simp [go_sem] at hK
      constructor
      go_simp
      have hq : pEq (.int .i64 (i : Int)) (.int .i64 (i : Int)) w' := rfl
      have hq2 := hK _ _ (Below.refl _ _) hq
      exact hq2
    · have hr : pRow3 w.heap.size m' i (.int .i64 r1) (.int .i64 r2) (.int .i64 r3) (X 8) w' := hd 8 (by kernel_rfl)
      refine Exists.elim hr fun g hr => Exists.elim hr fun c hr => ?_
      have e2 := hr.1
      have h1 := hr.2.1
      have h2 := hr.2.2.2.1
      have h3 := hr.2.2.2.2.1
      have h4 := hr.2.2.2.2.2
      clear hr
      have e3 : X 9 = .int .i64 (i : Int) := hd 9 (by kernel_rfl)
      clear hd
      simp [go_sem, e2, e3] at hK
      constructor
      go_simp
      have hq : pAt3 i (.int .i64 r1) (.int .i64 r2) (.int .i64 r3) (.pointer (some ⟨g, i * 3, none⟩)) w' := ⟨g, rfl, h1, h2, h3, h4⟩
      have hq2 := hK _ _ (Below.refl _ _) hq
      exact hq2
    · have hr : pAt3 i (.int .i64 r1) (.int .i64 r2) (.int .i64 r3) (X 10) w' := hd 10 (by kernel_rfl)
      refine Exists.elim hr fun g hr => ?_
      have e2 := hr.1
      have h1 := hr.2.1
      have h2 := hr.2.2.1
      have h3 := hr.2.2.2.1
      have h4 := hr.2.2.2.2
      clear hr
      clear hd
      simp [go_sem, e2] at hK
      constructor
      go_simp
      have hq : pEq (.agg #[.int .i64 r1, .int .i64 r2, .int .i64 r3]) (.agg #[.int .i64 r1, .int .i64 r2, .int .i64 r3]) w' := rfl
      have hq2 := hK _ _ (Below.refl _ _) hq
      exact hq2
    · clear hd
      simp [go_sem] at hK
      constructor
      go_simp
      have hq : pNew w.heap.size #[.int .i64 0, .int .i64 0] 46 (.pointer (some ⟨w'.heap.size, 0, none⟩)) (w'.alloc (.cells #[.int .i64 0, .int .i64 0] 46)) := ⟨w'.heap.size, rfl, hb.size, by simp, (by show (w'.heap.push _)[w'.heap.size]? = _; simp)⟩
      have hq2 := hK _ _ (below_box _) hq
      exact hq2
    · clear hd
      simp [go_sem] at hK
      constructor
      go_simp
      have hq : pNew w.heap.size #[.int .i64 0, .int .i64 0, .int .i64 0] 39 (.pointer (some ⟨w'.heap.size, 0, none⟩)) (w'.alloc (.cells #[.int .i64 0, .int .i64 0, .int .i64 0] 39)) := ⟨w'.heap.size, rfl, hb.size, by simp, (by show (w'.heap.push _)[w'.heap.size]? = _; simp)⟩
      have hq2 := hK _ _ (below_box _) hq
      exact hq2
  · intro X w' K hb hd hK o ho
    cases ho
    have hr : pNew w.heap.size #[.int .i64 0, .int .i64 0] 46 (X 12) w' := hd 12 (by kernel_rfl)
    refine Exists.elim hr fun b hr => ?_
    have e1 := hr.1
    have h1 := hr.2.1
    have h2 := hr.2.2.1
    have h3 := hr.2.2.2
    clear hr
    have e5 : X 5 = .agg #[.int .i64 Ax, .int .i64 Ay] := hd 5 (by kernel_rfl)
    clear hd
    simp only [List.take_succ_cons, List.take_zero, List.map_cons, List.map_nil, puts] at hK ⊢
    simp [go_sem, e1, e5] at hK
    have y1 := (heap_cells h3 0).1
    have y2 := (heap_cells h3 0).2
    have y3 := (heap_cells h3 1).1
    have y4 := (heap_cells h3 1).2
    simp at y1 y3
    have H3 := Lib.hid h3
    clear h3
    constructor
    go_simp
    refine hK _ (hb.trans (below_two (by omega))) ?_ ⟨b, rfl, h1, by simpa [World.setCell] using h2, heap_two H3.out⟩
    exact keep_cons (fun _ _ h => h) (keep_cons (fun _ _ h => h) (keep_cons (fun h => by cases h) (keep_cons (fun _ _ h => h) (keep_cons (fun h => by cases h) (keep_cons (fun _ _ h => h) (keep_cons (fun _ _ h => h) (keep_cons (fun _ _ h => h) (keep_cons (fun _ _ h => keep_row3 H3.out h) (keep_cons (fun _ _ h => h) (keep_cons (fun _ _ h => keep_at3 H3.out h) (keep_cons (fun _ _ h => h) (keep_cons (fun h => by cases h) (keep_cons (fun _ _ h => keep_new3 H3.out h) keep_nil)))))))))))))
  · intro X w' hb hd hσ
    have hr : pNew w.heap.size #[.int .i64 0, .int .i64 0, .int .i64 0] 39 (X 13) w' := hd 13 (by omega) (by kernel_rfl)
    have e11 : X 11 = .agg #[.int .i64 r1, .int .i64 r2, .int .i64 r3] := hd 11 (by omega) (by kernel_rfl)
    clear hd
    obtain ⟨pb, e13, h1, h2, h3⟩ := hr
    obtain ⟨pa, e12, g1, g2, g3⟩ := hσ
    have y1 := (heap_cells h3 0).1
    have y2 := (heap_cells h3 0).2
    have y3 := (heap_cells h3 1).1
    have y4 := (heap_cells h3 1).2
    have y5 := (heap_cells h3 2).1
    have y6 := (heap_cells h3 2).2
    simp at y1 y3 y5
    have HB := Lib.hid hb
    have H3 := Lib.hid h3
    have G3 := Lib.hid g3
    clear h3 g3 hb
    have hne : pa ≠ pb := by
      rintro rfl
      have := H3.out
      rw [G3.out] at this
      simp at this
    have hcb := Lib.hid (heap_three (x := .int .i64 r1) (y := .int .i64 r2) (q := .int .i64 r3) H3.out)
    have hca := Lib.hid (((Below.heap_setCell ((w'.setCell ⟨pb, 0, none⟩ (.int .i64 r1)).setCell ⟨pb, 1, none⟩ (.int .i64 r2)) ⟨pb, 2, none⟩ (.int .i64 r3) pa hne).trans ((Below.heap_setCell (w'.setCell ⟨pb, 0, none⟩ (.int .i64 r1)) ⟨pb, 1, none⟩ (.int .i64 r2) pa hne).trans (Below.heap_setCell w' ⟨pb, 0, none⟩ (.int .i64 r1) pa hne))).trans G3.out)
    have hbl := Lib.hid (((HB.out.setCell (p := ⟨pb, 0, none⟩) h1 (.int .i64 r1)).setCell (p := ⟨pb, 1, none⟩) h1 (.int .i64 r2)).setCell (p := ⟨pb, 2, none⟩) h1 (.int .i64 r3))
    have hlb : pb < (((w'.setCell ⟨pb, 0, none⟩ (.int .i64 r1)).setCell ⟨pb, 1, none⟩ (.int .i64 r2)).setCell ⟨pb, 2, none⟩ (.int .i64 r3)).heap.size := by simpa [World.setCell] using h2
    have hla : pa < (((w'.setCell ⟨pb, 0, none⟩ (.int .i64 r1)).setCell ⟨pb, 1, none⟩ (.int .i64 r2)).setCell ⟨pb, 2, none⟩ (.int .i64 r3)).heap.size := by simpa [World.setCell] using g2
    constructor
    simp only [List.take_succ_cons, List.take_zero, List.map_cons, List.map_nil, List.drop_succ_cons, List.drop_zero, puts]
    go_wp2
    generalize (((w'.setCell ⟨pb, 0, none⟩ (.int .i64 r1)).setCell ⟨pb, 1, none⟩ (.int .i64 r2)).setCell ⟨pb, 2, none⟩ (.int .i64 r3)) = wl at *
    clear y1 y2 y3 y4 y5 y6 H3 G3 h2 g2 HB hne
    have hd9 : d ≤ 9 := q4
    go_loopw [9, 10] (fun l c wr => ∃ k : Nat, c = .int .i64 (k : Int) ∧ k ≤ d + 1 ∧ Own wr wl.heap.size l (resN p f (Ax, Ay) (r1, r2, r3) k) ∧ Below wl.heap.size wl wr) (fun _ c _ => d + 1 - (intOf c).toNat)
    case atStart => exact ⟨0, rfl, by omega, Own.nil, Below.refl _ _⟩
    case round =>
      obtain ⟨k, rfl, hk, hown, hbel⟩ := hrel
      have HO := Lib.hid hown
      have HW := Lib.hid hbel
      have hsw := hbel.size
      clear hown hbel
      have y1 := ((HW.out.cell (p := ⟨pb, 1, none⟩) hlb).trans (heap_cells hcb.out 1).1)
      have y2 := ((HW.out.cell (p := ⟨pb, 2, none⟩) hlb).trans (heap_cells hcb.out 2).1)
      have y0 := ((HW.out.cell (p := ⟨pb, 0, none⟩) hlb).trans (heap_cells hcb.out 0).1)
      have z0 := ((HW.out.cell (p := ⟨pa, 0, none⟩) hla).trans (heap_cells hca.out 0).1)
      have z1 := ((HW.out.cell (p := ⟨pa, 1, none⟩) hla).trans (heap_cells hca.out 1).1)
      simp at y0 y1 y2 z0 z1
      have hlb' : pb < wr.heap.size := by omega
      have hla' : pa < wr.heap.size := by omega
      have HR1 := Lib.hid ((HR.out.step hbl.out).step HW.out)
      have kb := Int.mul_nonneg (show 0 ≤ (k : Int) by omega) (show 0 ≤ r2 by omega)
      have q12 : r2 ≤ 9 := by
        have := Int.mul_le_mul_of_nonneg_left (show (1 : Int) ≤ d by omega) (show 0 ≤ r2 by omega)
        omega
      have kb2 := Int.mul_le_mul (show (k : Int) ≤ 10 by omega) q12 (by omega) (by omega)
      have W1 : IntKind.i64.wrap ((k : Int) * r2) = (k : Int) * r2 := IntWalk.i64_in _ (by omega)
      by_cases hlt : k ≤ d
      · have hle : (k : Int) * r2 ≤ r3 := by
          have := Int.mul_le_mul_of_nonneg_left (show (k : Int) ≤ d by omega) (show 0 ≤ r2 by omega)
          rw [Int.mul_comm r2, q1] at this
          rw [Int.mul_comm (k : Int)]
          rw [Int.mul_comm (k : Int)] at this
          omega
        obtain ⟨t1, t2, t3, t4, t5⟩ := HSEG.out k hlt
        have kb3 := mul_bd9 (x := r1) (y := (k : Int)) ⟨q10, q11⟩ ⟨by omega, by omega⟩
        rw [Int.mul_comm] at kb3
        have W2 : IntKind.i64.wrap ((k : Int) * r1) = (k : Int) * r1 := IntWalk.i64_in _ (by omega)
        obtain ⟨ix, hix⟩ : ∃ ix : Nat, (ix : Int) = Ax + (k : Int) * r2 := ⟨(Ax + (k : Int) * r2).toNat, by omega⟩
        obtain ⟨iy, hiy⟩ : ∃ iy : Nat, (iy : Int) = Ay + (k : Int) * r1 := ⟨(Ay + (k : Int) * r1).toNat, by omega⟩
        have hn := resN_next p f (Ax, Ay) (r1, r2, r3) k
        simp only at hn
        rw [← hix, ← hiy, Int.toNat_natCast, Int.toNat_natCast] at hn
        have HNX := Lib.hid hn
        have t6 : p ^ iy ≤ 1000000 := by rw [← hiy, Int.toNat_natCast] at t5; exact t5
        have t7 : 1 ≤ p ^ iy := pow_pos' (show 1 ≤ p by omega) iy
        have hixN : ix < N := by omega
        have hixM : (ix : Int) < (N : Int) := by omega
        have hix0 : (0 : Int) ≤ (ix : Int) := by omega
        have hiy0 : (0 : Int) ≤ (iy : Int) := by omega
        have hiy1 : (iy : Int) ≤ 1000000 := by omega
        obtain ⟨b1, o1, rfl, hc⟩ := HR1.out.at (k := ix) (by rw [HN.out]; exact hixN)
        have hbs := HR1.out.lt (by rw [HN.out]; omega)
        have hb := HF.out ix
        have T1 := hix.symm
        have T2 := hiy.symm
        have hq0 : ¬ p ^ iy = 0 := by omega
        have hL : (resN p f (Ax, Ay) (r1, r2, r3) k).length + 1 ≤ 1099511627776 := by rw [resN_len]; omega
        clear hix hiy t1 t2 t3 t4 t5 hn
        generalize el f ix = c at *
        go_wp2
        (refine wp_region_wext (by kernel_rfl) (by kernel_rfl) ?_; (repeat (go_big_quiet_step (first | (go_at_call 34; with_reducible refine calls_wext_same (power_any p (iy : Int) _ (by omega) (by rw [Int.toNat_natCast]; omega) (by rw [Int.toNat_natCast]; omega)))))); refine wpQuiet_nil ?_; intro w1_hbq hbq; replace hbq := below_of_wext hbq; obtain ⟨chbq, fhbq, shbq⟩ := bfacts hbq; (try have l0hbq : w.heap.size < w1_hbq.heap.size := (by first | (simp at shbq; omega) | omega)); (try have l1hbq : w.heap.size + 1 < w1_hbq.heap.size := (by first | (simp at shbq; omega) | omega)))
        have HO1 := Lib.hid (HO.out.step hbq)
        have HW1 := Lib.hid (HW.out.trans (hbq.mono hsw))
        have hs1 := HW1.out.size
        by_cases hz : c % p ^ iy = 0
        · have hz' : (c.tmod (p ^ iy) != 0) = false := by rw [tmod_neK]; simpa using hz
          have hcd := quo_le (n := c) t7
          have hct : c.tdiv (p ^ iy) = c / p ^ iy := Int.tdiv_eq_ediv_of_dvd (Int.dvd_of_emod_eq_zero hz)
          have HC := Lib.hid (show c / p ^ iy % p = cellR p c iy by rw [cellR, if_pos hz])
          clear hz
          go_wp2_with (first | (go_at_call 35; ((with_reducible refine (calls_int (mod_any _ _ _ (by omega) (by omega)) HC.out).mono ?_); rintro e w' ⟨rfl, rfl⟩)) | (at_builtin; refine append_one _ rfl _ _ rfl rfl HO1.out hL hs1 rfl ?_))
          intro vv w5 hown5 hbel5
          rw [← HNX.out] at hown5
          have HO5 := Lib.hid hown5
          have HW5 := Lib.hid (HW1.out.trans hbel5)
          clear hown5 hbel5
          go_wp2
          go_roundw
          case rel => exact ⟨k + 1, by go_num, by omega, HO5.out, HW5.out⟩
          case measure => simp [intOf]; omega
        · have hz' : (c.tmod (p ^ iy) != 0) = true := by rw [tmod_neK]; simpa using hz
          have HC := Lib.hid (show (0 : Int) = cellR p c iy by rw [cellR, if_neg hz])
          clear hz
          go_wp2_with (first | (go_at_call 35; ((with_reducible refine (calls_int (mod_any _ _ _ (by omega) (by omega)) ((Int.zero_emod p).trans HC.out)).mono ?_); rintro e w' ⟨rfl, rfl⟩)) | (at_builtin; refine append_one _ rfl _ _ rfl rfl HO1.out hL hs1 rfl ?_))
          intro vv w5 hown5 hbel5
          rw [← HNX.out] at hown5
          have HO5 := Lib.hid hown5
          have HW5 := Lib.hid (HW1.out.trans hbel5)
          clear hown5 hbel5
          go_wp2
          go_roundw
          case rel => exact ⟨k + 1, by go_num, by omega, HO5.out, HW5.out⟩
          case measure => simp [intOf]; omega
      · have hkd : k = d + 1 := by omega
        have hgt : ¬ ((k : Int) * r2 ≤ r3) := by
          rw [← q1, Int.mul_comm r2, hkd]
          have : ((d + 1 : Nat) : Int) * r2 = (d : Int) * r2 + r2 := by rw [Int.natCast_succ, Int.add_mul, Int.one_mul]
          omega
        have HKD := Lib.hid hkd
        clear hkd
        go_wp2_with ((go_at_call 36; ((with_reducible refine (trim_any HO.out.reads).mono ?_); rintro e w' ⟨vv, rfl, o9, b9⟩)))
        go_ret
        refine ⟨_, rfl, ?_, hbl.out.trans ((HW.out.trans (b9.mono hsw)).mono hbl.out.size)⟩
        rw [HKD.out, HRT.out] at o9
        exact o9.mono (by have := hbl.out.size; omega)

end Go.Proofs.Ytggojomooodlgaa
