/- Slices of int64: what they read, what a call owns; the laws' own copies, comparisons, marks. -/
import Derived.Test.YtcecmjnbhppocaaDoorA
import Derived.OwnWalk
import Derived.LoopTactic
import Derived.OpenShut
namespace Go.Proofs.YtcecmjnbhppocaaDoor
open Go.RowKit
set_option linter.unusedVariables false
set_option linter.unusedSimpArgs false

/-- The k-th number of a list. -/
def el (zs : List Int) (k : Nat) : Int := zs.getD k 0
theorem el_get {zs : List Int} {k : Nat} (h : k < zs.length) : zs[k]? = some (el zs k) := by
  rw [el, List.getD_eq_getElem?_getD, List.getElem?_eq_getElem h]; rfl
theorem el_take {zs : List Int} {k n : Nat} (h : k < n) : el (zs.take n) k = el zs k := by
  simp only [el, List.getD_eq_getElem?_getD, List.getElem?_take, if_pos h]
theorem el_drop {zs : List Int} {k n : Nat} : el (zs.drop n) k = el zs (n + k) := by
  simp only [el, List.getD_eq_getElem?_getD, List.getElem?_drop]
theorem el_ext {xs ys : List Int} (hl : xs.length = ys.length) (h : ∀ k, k < xs.length → el xs k = el ys k) : xs = ys := by
  apply List.ext_getElem? 
  intro k
  by_cases hk : k < xs.length
  · rw [el_get hk, el_get (hl ▸ hk), h k hk]
  · rw [List.getElem?_eq_none (by omega), List.getElem?_eq_none (by omega)]
theorem el_mem {zs : List Int} {k : Nat} (h : k < zs.length) : el zs k ∈ zs := List.mem_of_getElem? (el_get h)
theorem mem_el {zs : List Int} {x : Int} (h : x ∈ zs) : ∃ k, k < zs.length ∧ el zs k = x := by
  obtain ⟨k, hk, he⟩ := List.getElem_of_mem h
  exact ⟨k, hk, by have := el_get hk; rw [List.getElem?_eq_getElem hk, he] at this; injection this with h; exact h.symm⟩

/-- What a law's argument brings. -/
def IsRow (k : IntKind) (w : World) (a : Option Addr) (len cap : Nat) (zs : List Int) : Prop :=
  (a = none ∧ len = 0 ∧ cap = 0 ∧ zs = []) ∨
  ∃ x, a = some x ∧ len ≤ cap ∧ cap ≤ maxLen ∧ zs.length = cap ∧ (∀ i, i < zs.length → w.cell? (x.add i) = some (.int k (zs.getD i 0))) ∧ ∀ n ∈ zs, (Lit.int k n).wf = true

/-- The value v is a slice whose elements read zs. -/
def Reads (w : World) (v : Value) (zs : List Int) : Prop :=
  zs.length ≤ 1099511627776 ∧ ∃ a cap, v = .slice a zs.length cap ∧ zs.length ≤ cap ∧ cap ≤ maxLen ∧
    (0 < zs.length → ∃ b o, a = some ⟨b, o, none⟩ ∧ b < w.heap.size ∧ ∀ i, i < zs.length → w.cell? ⟨b, o + i, none⟩ = some (.int .i64 (el zs i)))

theorem Reads.below {w w' : World} {v : Value} {zs : List Int} {B : Nat} (h : Reads w v zs) (hb : Below B w w') (hB : w.heap.size ≤ B) : Reads w' v zs := by
  obtain ⟨h0, a, cap, rfl, h1, h2, h3⟩ := h
  refine ⟨h0, a, cap, rfl, h1, h2, fun h => ?_⟩
  obtain ⟨b, o, rfl, h4, h5⟩ := h3 h
  exact ⟨b, o, rfl, Nat.lt_of_lt_of_le h4 hb.size, fun i hi => by rw [hb.cell (p := ⟨b, o + i, none⟩) (by show b < B; omega)]; exact h5 i hi⟩
theorem Reads.step {w w' : World} {v : Value} {zs : List Int} (h : Reads w v zs) (hb : Below w.heap.size w w') : Reads w' v zs := h.below hb (Nat.le_refl _)
theorem Reads.nil {w : World} {a : Option Addr} {cap : Nat} (h : cap ≤ maxLen) : Reads w (.slice a 0 cap) [] := ⟨by simp, a, cap, rfl, by simp, h, fun h => by simp at h⟩
/-- The first k elements. -/
theorem Reads.take {w : World} {a : Option Addr} {n cap k : Nat} {zs : List Int} (h : Reads w (.slice a n cap) zs) (hk : k ≤ zs.length) : Reads w (.slice a k cap) (zs.take k) := by
  obtain ⟨h0, a', cap', hv, h1, h2, h3⟩ := h
  injection hv with e1 e2 e3
  subst e1 e2 e3
  have hl : (zs.take k).length = k := by rw [List.length_take]; omega
  refine ⟨by omega, a, cap, by rw [hl], by omega, h2, fun h => ?_⟩
  rw [hl] at h
  obtain ⟨b, o, rfl, h4, h5⟩ := h3 (by omega)
  exact ⟨b, o, rfl, h4, fun i hi => by rw [hl] at hi; rw [el_take hi]; exact h5 i (by omega)⟩

/-- The value v is a slice of the call's own (its block is not below lo) that holds zs. -/
def Own (w : World) (lo : Nat) (v : Value) (zs : List Int) : Prop := zs.length ≤ 1099511627776 ∧ w.ownsRow lo 2 1 v zs.length (zs.map (Value.int .i64))

theorem ints_at {zs : List Int} {i : Nat} (h : i < zs.length) : (zs.map (Value.int .i64))[i]? = some (.int .i64 (el zs i)) := by
  rw [List.getElem?_map, el_get h]; rfl
theorem Own.reads {w : World} {lo : Nat} {v : Value} {zs : List Int} (h : Own w lo v zs) : Reads w v zs := by
  obtain ⟨h0, h⟩ := h
  refine ⟨h0, ?_⟩
  rcases h.2 with ⟨rfl, h2⟩ | ⟨g, cap, cur, rfl, hg, hh, hc, hm, hs, ht⟩
  · rw [h2]
    exact ⟨none, 0, rfl, by omega, by simp, fun h => by omega⟩
  · refine ⟨_, cap, rfl, hc, hm, fun hp => ⟨g, 0, rfl, ?_, fun i hi => ?_⟩⟩
    · exact (World.ownsRow.lt h g rfl).2
    · rw [World.ownsRow.cellAt h (0 + i) (by omega), Nat.zero_add, ints_at hi]
theorem Own.kept {w w' : World} {lo : Nat} {v : Value} {zs : List Int} {row : Option Nat} (h : Own w lo v zs) (hg : w.grownBy w' row) (hne : v.ownBlock = none ∨ v.ownBlock ≠ row) : Own w' lo v zs := ⟨h.1, World.ownsRow.kept h.2 hg hne⟩
theorem below_grown {w w' : World} (h : Below w.heap.size w w') : w.grownBy w' none := ⟨h.os, h.tape, h.output, h.size, fun k hk _ => h.block k hk⟩
theorem Own.step {w w' : World} {lo : Nat} {v : Value} {zs : List Int} (h : Own w lo v zs) (hb : Below w.heap.size w w') : Own w' lo v zs := by
  refine h.kept (below_grown hb) ?_
  cases v.ownBlock with
  | none => exact .inl rfl
  | some k => exact .inr (by simp)
theorem Own.mono {w : World} {lo lo' : Nat} {v : Value} {zs : List Int} (h : Own w lo v zs) (hl : lo' ≤ lo) : Own w lo' v zs := by
  refine ⟨h.1, h.2.1, ?_⟩
  rcases h.2.2 with h2 | ⟨g, cap, cur, e, hg, r⟩
  · exact .inl h2
  · exact .inr ⟨g, cap, cur, e, by omega, r⟩
theorem Own.lt {w : World} {lo : Nat} {v : Value} {zs : List Int} (h : Own w lo v zs) : ∀ k, v.ownBlock = some k → lo ≤ k ∧ k < w.heap.size := World.ownsRow.lt h.2
/-- Two slices of which the one was made before the other do not share memory. -/
theorem own_apart {w w1 : World} {lo : Nat} {v u : Value} {zs ys : List Int} (h : Own w lo v zs) (k : Own w1 w.heap.size u ys) : u.ownBlock = none ∨ u.ownBlock ≠ v.ownBlock := by
  cases hu : u.ownBlock with
  | none => exact .inl rfl
  | some g =>
    refine .inr fun e => ?_
    have := (h.lt g e.symm).2
    have := (k.lt g hu).1
    omega
theorem own_apart' {w w1 : World} {lo : Nat} {v u : Value} {zs ys : List Int} (h : Own w lo v zs) (k : Own w1 w.heap.size u ys) : v.ownBlock = none ∨ v.ownBlock ≠ u.ownBlock := by
  cases hu : v.ownBlock with
  | none => exact .inl rfl
  | some g =>
    refine .inr fun e => ?_
    have := (h.lt g hu).2
    have := (k.lt g e.symm).1
    omega
/-- A store into a slice of the call's own. -/
theorem Own.stored {w : World} {lo g n cap : Nat} {zs : List Int} (h : Own w lo (.slice (some ⟨g, 0, none⟩) n cap) zs) (k : Nat) (x : Int) :
    Own (w.setCell ⟨g, k, none⟩ (.int .i64 x)) lo (.slice (some ⟨g, 0, none⟩) n cap) (zs.set k x) ∧ w.grownBy (w.setCell ⟨g, k, none⟩ (.int .i64 x)) (some g) := by
  have hn : n = zs.length := by
    rcases h.2.2 with ⟨h', _⟩ | ⟨g', cap', cur, h', _⟩
    · simp at h'
    · injection h'
  subst hn
  obtain ⟨h1, h2⟩ := World.ownsRow.stored h.2 k (.int .i64 x)
  refine ⟨⟨by simpa using h.1, ?_⟩, h2⟩
  rw [List.length_set, List.map_set]
  exact h1
theorem Own.head {w : World} {lo : Nat} {v : Value} {zs : List Int} (h : Own w lo v zs) (hp : 0 < zs.length) : ∃ g cap, v = .slice (some ⟨g, 0, none⟩) zs.length cap ∧ lo ≤ g ∧ g < w.heap.size ∧ zs.length ≤ cap ∧ cap ≤ maxLen := by
  rcases h.2.2 with ⟨rfl, h2⟩ | ⟨g, cap, cur, rfl, hg, hh, hc, hm, hs, ht⟩
  · omega
  · exact ⟨g, cap, rfl, hg, (h.lt g rfl).2, hc, hm⟩
theorem Own.cellAt {w : World} {lo g n cap : Nat} {zs : List Int} (h : Own w lo (.slice (some ⟨g, 0, none⟩) n cap) zs) {i : Nat} (hi : i < zs.length) : w.cell? ⟨g, i, none⟩ = some (.int .i64 (el zs i)) := by
  have hn : n = zs.length := by
    rcases h.2.2 with ⟨h', _⟩ | ⟨g', cap', cur, h', _⟩
    · simp at h'
    · injection h'
  subst hn
  rw [World.ownsRow.cellAt h.2 i (by omega), ints_at hi]
theorem Own.frozenAt {w : World} {lo g n cap : Nat} {zs : List Int} (h : Own w lo (.slice (some ⟨g, 0, none⟩) n cap) zs) (i : Nat) : w.frozen? ⟨g, i, none⟩ = false := by
  have hn : n = zs.length := by
    rcases h.2.2 with ⟨h', _⟩ | ⟨g', cap', cur, h', _⟩
    · simp at h'
    · injection h'
  subst hn
  exact World.ownsRow.frozenAt h.2 i
theorem info64 : (Tryd.prog.info? 2).map (fun i => (i.zero, i.size, i.bytes)) = some (some (.int .i64 0), 1, 8) := by kernel_rfl

/-- A new slice that holds zs comes back. -/
def RetInts (zs : List Int) (w : World) (e : Ending) (w' : World) : Prop := ∃ v, e = .returned v ∧ Own w' w.heap.size v zs ∧ Below w.heap.size w w'

/-- zs up to k, then zeros. -/
def upto (zs : List Int) (k : Nat) : List Int := zs.take k ++ List.replicate (zs.length - k) 0
theorem upto_len {zs : List Int} {k : Nat} (h : k ≤ zs.length) : (upto zs k).length = zs.length := by simp [upto]; omega
theorem upto_zero (zs : List Int) : upto zs 0 = List.replicate zs.length 0 := by simp [upto]
theorem upto_all (zs : List Int) : upto zs zs.length = zs := by simp [upto]
theorem upto_step {zs : List Int} {k : Nat} (h : k < zs.length) : (upto zs k).set k (el zs k) = upto zs (k + 1) := by
  apply List.ext_getElem?
  intro i
  have h1 : (zs.take k).length = k := by rw [List.length_take]; omega
  have h2 : (zs.take (k + 1)).length = k + 1 := by rw [List.length_take]; omega
  rw [List.getElem?_set]
  by_cases hi : k = i
  · subst hi
    rw [if_pos rfl, if_pos (by rw [upto_len (by omega)]; exact h)]
    rw [upto, List.getElem?_append_left (by omega), List.getElem?_take, if_pos (by omega), el_get h]
  · rw [if_neg hi]
    by_cases hlt : i < k
    · rw [upto, upto, List.getElem?_append_left (by omega), List.getElem?_append_left (by omega), List.getElem?_take, List.getElem?_take, if_pos hlt, if_pos (by omega)]
    · rw [upto, upto, List.getElem?_append_right (by omega), List.getElem?_append_right (by omega), h1, h2, List.getElem?_replicate, List.getElem?_replicate]
      by_cases hz : i < zs.length
      · rw [if_pos (by omega), if_pos (by omega)]
      · rw [if_neg (by omega), if_neg (by omega)]
theorem made_zeros (n : Nat) : (madeCells #[Value.int .i64 0] n).toList = (List.replicate n (0 : Int)).map (Value.int .i64) := by
  apply List.ext_getElem?
  intro i
  simp only [madeCells, Array.getElem?_toList, Array.getElem?_map, List.map_replicate, List.getElem?_replicate]
  by_cases h : i < n
  · rw [if_pos h]
    simp [Array.getElem?_range, h, Nat.mod_one]
  · rw [if_neg h]
    simp [Array.getElem?_range, h]

set_option maxHeartbeats 2000000 in
theorem toInt64S_any {v : Value} {zs : List Int} {w : World} (h : Reads w v zs) :
    Calls Tryd.prog 7 #[v] w (RetInts zs w) := by
  obtain ⟨i0, hi, hz0, hz1, hz2⟩ := info_parts info64
  obtain ⟨hL, a, cap, rfl, hcap, hmax, hcell⟩ := h
  have HC := Lib.hid hcell
  clear hcell
  go_enter Tryd.func7, Tryd.ntmps7
  go_wp2_with (at_make; refine wpList_make_full _ rfl _ _ 22 rfl w.heap.size 2 i0 (.int .i64 0) 1 Tryd.underlying22 hi hz0 hz1 .i64 .i64 (zs.length : Int) (zs.length : Int) zs.length rfl rfl rfl rfl (by rw [hz2]; omega) (by unfold maxLen; omega) (Nat.le_refl _) ?_)
  intro w1 hown hgrow
  rw [made_zeros] at hown
  have HO := Lib.hid (show Own w1 w.heap.size (.slice (some ⟨w.heap.size, 0, none⟩) zs.length zs.length) (upto zs 0) by rw [upto_zero]; exact ⟨by simpa using hL, by rw [List.length_replicate]; exact hown⟩)
  have HB := Lib.hid (show Below w.heap.size w w1 from (Below.refl _ _).grown hgrow (Nat.le_refl _) (fun k hk => by cases hk))
  clear hown hgrow
  go_wp2
  go_loopw [4] (fun c wr => ∃ k : Nat, c = .int .i64 (k : Int) ∧ k ≤ zs.length ∧ Own wr w.heap.size (.slice (some ⟨w.heap.size, 0, none⟩) zs.length zs.length) (upto zs k) ∧ Below w.heap.size w wr) (fun c _ => zs.length - (intOf c).toNat)
  case atStart => exact ⟨0, rfl, by omega, HO.out, HB.out⟩
  case round =>
    clear HO HB
    obtain ⟨k, rfl, hk, hown, hbel⟩ := hrel
    have HO := Lib.hid hown
    have HB := Lib.hid hbel
    clear hown hbel
    by_cases hlt : k < zs.length
    · obtain ⟨b, o, rfl, hb, hc⟩ := HC.out (by omega)
      have f1 : wr.cell? ⟨b, o + k, none⟩ = some (.int .i64 (el zs k)) := by rw [HB.out.cell (p := ⟨b, o + k, none⟩) hb]; exact hc k hlt
      have f2 := HO.out.cellAt (i := k) (by rw [upto_len hk]; exact hlt)
      have f3 := HO.out.frozenAt k
      clear hc
      go_wp2
      obtain ⟨g1, g2⟩ := HO.out.stored k (el zs k)
      rw [upto_step hlt] at g1
      go_roundw
      case rel => exact ⟨k + 1, by go_num, by omega, g1, HB.out.setCell (Nat.le_refl _) _⟩
      case measure => simp [intOf]; omega
    · obtain rfl : k = zs.length := by omega
      go_wp2
      go_ret
      exact ⟨_, rfl, by have := HO.out; rw [upto_all] at this; exact this, HB.out⟩

/-- Two lists agree up to k. -/
def Agree (xs ys : List Int) (k : Nat) : Prop := ∀ j, j < k → el xs j = el ys j

set_option maxHeartbeats 2000000 in
theorem eqInt64S_any {v u : Value} {xs ys : List Int} {w : World} (h : Reads w v xs) (h' : Reads w u ys) :
    Calls Tryd.prog 9 #[v, u] w fun e w' => e = .returned (.bool (xs == ys)) ∧ Below w.heap.size w w' := by
  obtain ⟨hL, a, cap, rfl, hcap, hmax, hcell⟩ := h
  obtain ⟨hL', a', cap', rfl, hcap', hmax', hcell'⟩ := h'
  have HC := Lib.hid hcell
  have HC' := Lib.hid hcell'
  clear hcell hcell'
  by_cases hlen : xs.length = ys.length
  · have HLEN := Lib.hid hlen
    have hle : ((xs.length : Int) != (ys.length : Int)) = false := by simp [hlen]
    clear hlen
    go_enter Tryd.func9, Tryd.ntmps9
    go_wp2
    go_loopw [5] (fun c wr => ∃ k : Nat, c = .int .i64 (k : Int) ∧ k ≤ xs.length ∧ Hid (Agree xs ys k) ∧ Below w.heap.size w wr) (fun c _ => xs.length - (intOf c).toNat)
    case atStart => exact ⟨0, rfl, by omega, Lib.hid (fun j hj => by omega), Below.refl _ _⟩
    case round =>
      obtain ⟨k, rfl, hk, HA, hbel⟩ := hrel
      have HB := Lib.hid hbel
      clear hbel
      by_cases hlt : k < xs.length
      · have hlt' : k < ys.length := by have := HLEN.out; omega
        obtain ⟨b, o, rfl, hb, hc⟩ := HC.out (by omega)
        obtain ⟨b', o', rfl, hb', hc'⟩ := HC'.out (by omega)
        have f1 : wr.cell? ⟨b, o + k, none⟩ = some (.int .i64 (el xs k)) := by rw [HB.out.cell (p := ⟨b, o + k, none⟩) hb]; exact hc k hlt
        have f2 : wr.cell? ⟨b', o' + k, none⟩ = some (.int .i64 (el ys k)) := by rw [HB.out.cell (p := ⟨b', o' + k, none⟩) hb']; exact hc' k hlt'
        have f3 : b < wr.heap.size := by have := HB.out.size; omega
        have f4 : b' < wr.heap.size := by have := HB.out.size; omega
        clear hc hc'
        rcases Bool.eq_false_or_eq_true (el xs k != el ys k) with hne | hne
        · go_wp2_with (first | (refine wp_region_wext (by kernel_rfl) (by kernel_rfl) ?_; (repeat (go_big_quiet_step (first | fail))); refine wpQuiet_nil ?_; intro w1_hbq hbq; replace hbq := below_of_wext hbq; obtain ⟨chbq, fhbq, shbq⟩ := bfacts2 hbq; (try simp at shbq)))
          go_ret
          refine ⟨ret_bool ?_, by have := HB.out; first | exact this.trans (by assumption) | exact this.trans ((by assumption : Below wr.heap.size wr _).mono (by have := HB.out.size; omega))⟩
          simp at hne
          symm
          simp
          intro e
          exact hne (by rw [e])
        · go_wp2_with (first | (refine wp_region_wext (by kernel_rfl) (by kernel_rfl) ?_; (repeat (go_big_quiet_step (first | fail))); refine wpQuiet_nil ?_; intro w1_hbq hbq; replace hbq := below_of_wext hbq; obtain ⟨chbq, fhbq, shbq⟩ := bfacts2 hbq; (try simp at shbq)))
          go_roundw
          case rel => exact ⟨k + 1, by go_num, by omega, Lib.hid (fun j hj => by by_cases hj2 : j = k; { subst hj2; simpa using hne }; { exact HA.out j (by omega) }), by have := HB.out; first | exact this.trans (by assumption) | exact this.trans ((by assumption : Below wr.heap.size wr _).mono (by have := HB.out.size; omega))⟩
          case measure => simp [intOf]; omega
      · obtain rfl : k = xs.length := by omega
        go_wp2
        go_ret
        exact ⟨ret_bool (by simp; exact el_ext HLEN.out HA.out), HB.out⟩
  · have hle : ((xs.length : Int) != (ys.length : Int)) = true := by simp; omega
    have HLEN := Lib.hid hlen
    clear hlen
    go_enter Tryd.func9, Tryd.ntmps9
    go_wp2
    go_ret
    exact ⟨ret_bool (by symm; simp; intro e; exact HLEN.out (by rw [e])), Below.refl _ _⟩

theorem size_int64_any {v : Value} {zs : List Int} {w : World} (h : Reads w v zs) :
    Calls Tryd.prog 39 #[v] w fun e w' => e = .returned (.int .i64 zs.length) ∧ w = w' := by
  obtain ⟨hL, a, cap, rfl, hcap, hmax, hcell⟩ := h
  clear hcell
  go_enter Tryd.func39, Tryd.ntmps39
  go_wp2
  go_ret
  exact ⟨rfl, rfl⟩

/-- The place of the first x, or -1. -/
def indexAt : List Int → Int → Int
  | [], _ => -1
  | y :: zs, x => if y = x then 0 else if indexAt zs x < 0 then -1 else indexAt zs x + 1
def hasL (zs : List Int) (x : Int) : Bool := zs.contains x
theorem hasL_yes {zs : List Int} {x : Int} {k : Nat} (hk : k < zs.length) (h : el zs k = x) : hasL zs x = true := by
  simp only [hasL, List.contains_iff_mem]
  exact h ▸ el_mem hk
theorem hasL_no {zs : List Int} {x : Int} (h : ∀ j, j < zs.length → el zs j ≠ x) : hasL zs x = false := by
  rw [Bool.eq_false_iff]
  simp only [hasL, ne_eq, List.contains_iff_mem]
  intro hm
  obtain ⟨k, hk, he⟩ := mem_el hm
  exact h k hk he

theorem l01Has_any {v : Value} {zs : List Int} {w : World} (x : Int) (h : Reads w v zs) :
    Calls Tryd.prog 34 #[v, .int .i64 x] w fun e w' => e = .returned (.bool (hasL zs x)) ∧ w = w' := by
  obtain ⟨hL, a, cap, rfl, hcap, hmax, hcell⟩ := h
  have HC := Lib.hid hcell
  clear hcell
  go_enter Tryd.func34, Tryd.ntmps34
  go_wp2
  go_loop [5] (fun c => ∃ k : Nat, c = .int .i64 (k : Int) ∧ k ≤ zs.length ∧ Hid (∀ j, j < k → el zs j ≠ x)) (fun c => zs.length - (intOf c).toNat)
  case atStart => exact ⟨0, rfl, by omega, Lib.hid (fun j hj => by omega)⟩
  case round =>
    obtain ⟨k, rfl, hk, HA⟩ := hrel
    by_cases hlt : k < zs.length
    · obtain ⟨b, o, rfl, hb, hc⟩ := HC.out (by omega)
      have f1 := hc k hlt
      clear hc
      rcases Bool.eq_false_or_eq_true (el zs k == x) with hne | hne
      · go_wp2
        go_ret
        exact ⟨ret_bool (hasL_yes hlt (by simpa using hne)).symm, rfl⟩
      · go_wp2
        go_round
        case rel => exact ⟨k + 1, by go_num, by omega, Lib.hid (fun j hj => by by_cases hj2 : j = k; { subst hj2; simpa using hne }; { exact HA.out j (by omega) })⟩
        case measure => simp [intOf]; omega
    · obtain rfl : k = zs.length := by omega
      go_wp2
      go_ret
      exact ⟨ret_bool (hasL_no HA.out).symm, rfl⟩

theorem index_any {v : Value} {zs : List Int} {w : World} (x : Int) (h : Reads w v zs) :
    Calls Tryd.prog 52 #[v, .int .i64 x] w fun e w' => (∃ i : Int, e = .returned (.int .i64 i) ∧ (0 ≤ i ∧ hasL zs x = true ∧ i < zs.length ∧ el zs i.toNat = x ∨ i = -1 ∧ hasL zs x = false)) ∧ w = w' := by
  obtain ⟨hL, a, cap, rfl, hcap, hmax, hcell⟩ := h
  have HC := Lib.hid hcell
  clear hcell
  go_enter Tryd.func52, Tryd.ntmps52
  go_wp2
  go_loop [8, 5] (fun c d => ∃ k : Nat, c = .int .i64 (k : Int) ∧ k ≤ zs.length ∧ Hid (∀ j, j < k → el zs j ≠ x)) (fun c _ => zs.length - (intOf c).toNat)
  case atStart => exact ⟨0, rfl, by omega, Lib.hid (fun j hj => by omega)⟩
  case round =>
    obtain ⟨k, rfl, hk, HA⟩ := hrel
    by_cases hlt : k < zs.length
    · obtain ⟨b, o, rfl, hb, hc⟩ := HC.out (by omega)
      have f1 := hc k hlt
      clear hc
      rcases Bool.eq_false_or_eq_true (x == el zs k) with hne | hne
      · go_wp2
        go_ret
        exact ⟨⟨_, rfl, .inl ⟨by omega, hasL_yes hlt (by simpa using (by simpa using hne : x = el zs k).symm), by omega, by simpa using (by simpa using hne : x = el zs k).symm⟩⟩, rfl⟩
      · go_wp2
        go_round
        case rel => exact ⟨k + 1, by go_num, by omega, Lib.hid (fun j hj => by by_cases hj2 : j = k; { subst hj2; intro e; simp [e] at hne }; { exact HA.out j (by omega) })⟩
        case measure => simp [intOf]; omega
    · obtain rfl : k = zs.length := by omega
      go_wp2
      go_ret
      exact ⟨⟨_, rfl, .inr ⟨rfl, hasL_no HA.out⟩⟩, rfl⟩

theorem contains_any {v : Value} {zs : List Int} {w : World} (x : Int) (h : Reads w v zs) :
    Calls Tryd.prog 40 #[v, .int .i64 x] w fun e w' => e = .returned (.bool (hasL zs x)) ∧ w = w' := by
  have H := Lib.hid h
  clear h
  go_enter Tryd.func40, Tryd.ntmps40
  go_wp2_with (go_at_call 52; ((with_reducible refine (index_any x H.out).mono ?_); rintro e w' ⟨⟨i, rfl, hi⟩, rfl⟩))
  rcases hi with ⟨h0, h1, _, _⟩ | ⟨h0, h1⟩
  · go_wp2
    go_ret
    exact ⟨ret_bool (by rw [h1]; simpa using h0), rfl⟩
  · subst h0
    go_wp2
    go_ret
    exact ⟨ret_bool h1.symm, rfl⟩

/-- k, k + 1, .. -/
def seqL (k : Int) (n : Nat) : List Int := (List.range n).map fun i : Nat => k + (i : Int)
theorem seq_len (k : Int) (n : Nat) : (seqL k n).length = n := by simp [seqL]
theorem seq_el {k : Int} {n i : Nat} (h : i < n) : el (seqL k n) i = k + i := by
  simp [el, seqL, List.getD_eq_getElem?_getD, List.getElem?_map, List.getElem?_range, h]
/-- k, k + 1, .. up to place i, then zs. -/
def marked (zs : List Int) (k : Int) (i : Nat) : List Int := seqL k i ++ zs.drop i
theorem marked_len {zs : List Int} {k : Int} {i : Nat} (h : i ≤ zs.length) : (marked zs k i).length = zs.length := by simp [marked, seq_len]; omega
theorem marked_step {zs : List Int} {k : Int} {i : Nat} (h : i < zs.length) : (marked zs k i).set i (k + i) = marked zs k (i + 1) := by
  apply el_ext
  · rw [List.length_set, marked_len (by omega), marked_len (by omega)]
  · intro j hj
    rw [List.length_set, marked_len (by omega)] at hj
    have h1 : (seqL k i).length = i := seq_len _ _
    have h2 : (seqL k (i + 1)).length = i + 1 := seq_len _ _
    simp only [el, List.getD_eq_getElem?_getD, List.getElem?_set, marked_len (show i ≤ zs.length by omega)]
    by_cases hi : i = j
    · subst hi
      rw [if_pos rfl, if_pos h, marked, List.getElem?_append_left (by omega)]
      simp [seqL, List.getElem?_map, List.getElem?_range]
    · rw [if_neg hi]
      by_cases hlt : j < i
      · rw [marked, marked, List.getElem?_append_left (by omega), List.getElem?_append_left (by omega)]
        simp [seqL, List.getElem?_map, List.getElem?_range, hlt, show j < i + 1 by omega]
      · rw [marked, marked, List.getElem?_append_right (by omega), List.getElem?_append_right (by omega), h1, h2, List.getElem?_drop, List.getElem?_drop, show i + (j - i) = i + 1 + (j - (i + 1)) by omega]

theorem grown_trans {w w1 w2 : World} {row : Option Nat} (h : w.grownBy w1 row) (k : w1.grownBy w2 row) : w.grownBy w2 row :=
  ⟨k.os.trans h.os, k.tape.trans h.tape, k.output.trans h.output, Nat.le_trans h.size k.size, fun i hi hr => (k.block i (by have := h.size; omega) hr).trans (h.block i hi hr)⟩

set_option maxHeartbeats 2000000 in
theorem markInt64S_any {v : Value} {zs : List Int} {lo : Nat} {w : World} (k : Int) (hk0 : 0 ≤ k) (hk1 : k ≤ 1099511627776) (h : Own w lo v zs) :
    Calls Tryd.prog 12 #[v, .int .i64 k] w fun e w' => e = .returned (.int .i64 (k + zs.length)) ∧ Own w' lo v (seqL k zs.length) ∧ w.grownBy w' v.ownBlock := by
  have hL := h.1
  by_cases hp : 0 < zs.length
  · obtain ⟨g, cap, rfl, hg1, hg2, hcap, hmax⟩ := h.head hp
    have H := Lib.hid h
    clear h
    go_enter Tryd.func12, Tryd.ntmps12
    go_wp2
    go_loopw [5, 1] (fun c d wr => ∃ i : Nat, c = .int .i64 (i : Int) ∧ d = .int .i64 (k + i) ∧ i ≤ zs.length ∧ Own wr lo (.slice (some ⟨g, 0, none⟩) zs.length cap) (marked zs k i) ∧ w.grownBy wr (some g)) (fun c _ _ => zs.length - (intOf c).toNat)
    case atStart => exact ⟨0, rfl, by simp, by omega, by simpa [marked, seqL] using H.out, World.grownBy.refl _ _⟩
    case round =>
      obtain ⟨i, rfl, rfl, hi, hown, hgr⟩ := hrel
      have HO := Lib.hid hown
      have HB := Lib.hid hgr
      clear hown hgr
      by_cases hlt : i < zs.length
      · have f2 := HO.out.cellAt (i := i) (by rw [marked_len hi]; exact hlt)
        have f3 := HO.out.frozenAt i
        go_wp2
        obtain ⟨g1, g2⟩ := HO.out.stored i (k + i)
        rw [marked_step hlt] at g1
        go_roundw
        case rel => exact ⟨i + 1, by go_num, by congr 1; omega, by omega, g1, grown_trans HB.out g2⟩
        case measure => simp [intOf]; omega
      · obtain rfl : i = zs.length := by omega
        go_wp2
        go_ret
        exact ⟨rfl, by have := HO.out; simpa [marked] using this, HB.out⟩
  · obtain rfl : zs = [] := List.eq_nil_of_length_eq_zero (by omega)
    obtain ⟨_, a, cap, rfl, _, _, _⟩ := h.reads
    have H := Lib.hid h
    clear h
    simp only [List.length_nil]
    go_enter Tryd.func12, Tryd.ntmps12
    go_wp2
    go_loop [5, 1] (fun c d => c = .int .i64 0 ∧ d = .int .i64 k) (fun _ _ => 0)
    case atStart => exact ⟨rfl, rfl⟩
    case round =>
      obtain ⟨rfl, rfl⟩ := hrel
      go_wp2
      go_ret
      exact ⟨by simp, by simpa [seqL] using H.out, World.grownBy.refl _ _⟩

set_option maxHeartbeats 2000000 in
theorem heldInt64S_any {v : Value} {n : Nat} {w : World} (k : Int) (hk0 : 0 ≤ k) (hk1 : k ≤ 1099511627776) (h : Reads w v (seqL k n)) :
    Calls Tryd.prog 13 #[v, .int .i64 k] w fun e w' => e = .returned (.int .i64 (k + n)) ∧ w = w' := by
  obtain ⟨hL, a, cap, rfl, hcap, hmax, hcell⟩ := h
  rw [seq_len] at hL hcap hcell ⊢
  have HC := Lib.hid hcell
  clear hcell
  go_enter Tryd.func13, Tryd.ntmps13
  go_wp2
  go_loop [5, 1] (fun c d => ∃ i : Nat, c = .int .i64 (i : Int) ∧ d = .int .i64 (k + i) ∧ i ≤ n) (fun c _ => n - (intOf c).toNat)
  case atStart => exact ⟨0, rfl, by simp, by omega⟩
  case round =>
    obtain ⟨i, rfl, rfl, hi⟩ := hrel
    by_cases hlt : i < n
    · obtain ⟨b, o, rfl, hb, hc⟩ := HC.out (by omega)
      have f1 := hc i hlt
      rw [seq_el hlt] at f1
      have f2 : ((k + (i : Int)) != (k + (i : Int))) = false := by simp
      clear hc
      go_wp2
      go_round
      case rel => exact ⟨i + 1, by go_num, by congr 1; omega, by omega⟩
      case measure => simp [intOf]; omega
    · obtain rfl : i = n := by omega
      go_wp2
      go_ret
      exact ⟨rfl, rfl⟩

theorem eqInt64S_same {v u : Value} {xs : List Int} {w : World} (h : Reads w v xs) (h' : Reads w u xs) :
    Calls Tryd.prog 9 #[v, u] w fun e w' => e = .returned (.bool true) ∧ Below w.heap.size w w' := calls_bool (eqInt64S_any h h') (by simp)

/-- What a law's argument reads. -/
theorem IsRow.reads {w : World} {a : Option Addr} {len cap : Nat} {zs : List Int} (h : IsRow .i64 w a len cap zs) (hl : len ≤ 1048576) :
    ∃ Z : List Int, len = Z.length ∧ (∀ x ∈ Z, -9223372036854775808 ≤ x ∧ x ≤ 9223372036854775807) ∧ Reads w (.slice a Z.length cap) Z := by
  rcases h with ⟨rfl, rfl, rfl, rfl⟩ | ⟨x, rfl, hlc, hm, hz, hcell, hwf⟩
  · exact ⟨[], rfl, fun x hx => (by cases hx), Reads.nil (by simp)⟩
  · have h1 : (zs.take len).length = len := by rw [List.length_take]; omega
    refine ⟨zs.take len, h1.symm, fun x hx => ?_, ?_⟩
    · have := hwf x (List.mem_of_mem_take hx)
      exact bounds_i64 this
    · rw [h1]
      refine ⟨by omega, some x, cap, by rw [h1], by omega, hm, fun hp => ?_⟩
      obtain ⟨b, off, spot⟩ := x
      have hc := hcell 0 (by omega)
      have hspot : spot = none := by simpa [Addr.add] using World.cell?_spot hc
      subst hspot
      refine ⟨b, off, rfl, ?_, fun i hi => ?_⟩
      · apply Decidable.byContradiction
        intro hb
        have : w.heap[b]? = none := Array.getElem?_eq_none (by omega)
        simp [World.cell?, Addr.add, this] at hc
      · have h2 := hcell i (by omega)
        rw [el_take (by omega), el]
        by_cases h0 : i = 0
        · subst h0; simpa [Addr.add] using h2
        · simpa [Addr.add, h0] using h2

/-- A new slice that holds R, and a code, come back. -/
def RetIC (R : List Int) (c : Int) (w : World) (e : Ending) (w' : World) : Prop := ∃ v, e = .returned (.tuple #[v, .int .i64 c]) ∧ Own w' w.heap.size v R ∧ Below w.heap.size w w'

theorem one_new (wr : World) (x : Value) (t : TypeId) : ∀ (j : Nat) u, ([x] : List Value)[j]? = some u → (wr.alloc (.cells #[x] t)).cell? ((⟨wr.heap.size, 0, none⟩ : Addr).add j) = some u := by
  intro j u hu
  cases j with
  | zero =>
    simp at hu
    subst hu
    have := alloc_ite wr #[x] t wr.heap.size 0
    rw [if_neg (by omega), if_pos rfl] at this
    simp [Addr.add, this]
  | succ j => simp at hu
theorem Own.alloc {w : World} {lo : Nat} {v : Value} {zs : List Int} (h : Own w lo v zs) (o : Obj) : Own (w.alloc o) lo v zs := ⟨h.1, World.ownsRow.alloc h.2 o⟩
theorem Own.nil {w : World} {lo : Nat} : Own w lo (.slice none 0 0) [] := ⟨by simp, World.ownsRow_nil _ _ _ _⟩
theorem Own.empty {w : World} {lo : Nat} (h : lo ≤ w.heap.size) : Own (w.alloc (.cells #[] 2)) lo (.slice (some ⟨w.heap.size, 0, none⟩) 0 0) [] :=
  ⟨by simp, World.ownsRow_made w #[] 0 h (by simp) rfl⟩
/-- 'append(out, x)', out a slice of the call's own. -/
theorem append_one {ops : Array Oper} {rest : List Oper} {o : Oper} {a : Act} {Q : Exit → Act → World → Prop} (wr : World) (hgd : o.guard = none) (s x : Operand)
    (ho : o.op = .call { callee := .builtin .append, args := #[s, x], argTypes := #[22, 22] }) {lo : Nat} {v : Value} {L : List Int} {n : Int} {t : TypeId} (hs : a.eval s = v) (hown : Own wr lo v L)
    (hlen : L.length + 1 ≤ 1099511627776) (hlo : lo ≤ wr.heap.size) (hx : a.eval x = .slice (some ⟨wr.heap.size, 0, none⟩) 1 1)
    (h : ∀ v' w', Own w' lo v' (L ++ [n]) → Below lo wr w' → wpList Tryd.prog ops Q rest (a.put o.dst v') w') : wpList Tryd.prog ops Q (o :: rest) a (wr.alloc (.cells #[.int .i64 n] t)) := by
  obtain ⟨i0, hi, hz0, hz1, hz2⟩ := info_parts info64
  refine wpList_append_own _ hgd s x 22 ho lo 2 i0 (.int .i64 0) 1 8 Tryd.underlying22 hi hz0 hz1 hz2 rfl (by decide) v L.length (L.map (.int .i64)) hs (World.ownsRow.alloc hown.2 _) ⟨wr.heap.size, 0, none⟩ 1 1 [.int .i64 n] hx rfl (one_new wr _ _) (by intro u hu; simp at hu; subst hu; rfl) (by unfold maxLen; omega) (by omega) (by simp; omega) ?_
  intro v' w' h1 h2 _
  refine h v' w' ⟨by simpa using hlen, by simpa using h1⟩ ?_
  have hB : Below lo wr (wr.alloc (.cells #[.int .i64 n] t)) := (Below.refl _ _).alloc hlo _
  exact hB.grown h2 (by simp; omega) (fun k hk => (hown.lt k hk).1)

end Go.Proofs.YtcecmjnbhppocaaDoor
