/- Contracts: the cycle type of a permutation. -/
import Derived.Test.YtaielmibofnddaaX
import Derived.Test.YtaielmibofnddaaTb
namespace Go.Proofs.Ytaielmibofnddaa
open Go.RowKit
set_option linter.unusedVariables false
set_option linter.unusedSimpArgs false

def lensL (zss : List (List Int)) (i : Nat) : List Int := (zss.take i).map fun c => (c.length : Int)
theorem lens_next {zss : List (List Int)} {i : Nat} (h : i < zss.length) : lensL zss (i + 1) = lensL zss i ++ [((row zss i).length : Int)] := by
  have he : zss[i]? = some (row zss i) := by rw [row, List.getD_eq_getElem?_getD, List.getElem?_eq_getElem h]; rfl
  rw [lensL, List.take_add_one, he, lensL, List.map_append]
  rfl
theorem lens_len {zss : List (List Int)} {i : Nat} (h : i ≤ zss.length) : (lensL zss i).length = i := by
  simp [lensL]; omega
def typL (zs : List Int) : List Int := sortL (lensL (cycL zs) (cycL zs).length)
/-- The row i of a slice of slices, as its cell. -/
theorem OwnLL.rowAt {w : World} {lo hi : Nat} {a : Option Addr} {n cap : Nat} {zss : List (List Int)} (h : OwnLL w lo hi (.slice a n cap) zss) {i : Nat} (hi' : i < zss.length) :
    ∃ g a2 cap2, a = some ⟨g, 0, none⟩ ∧ w.cell? ⟨g, i, none⟩ = some (.slice a2 (row zss i).length cap2) ∧ Own w lo (.slice a2 (row zss i).length cap2) (row zss i) := by
  obtain ⟨_, _, us, h3, h4⟩ := h
  have hl := h4.len
  obtain ⟨g, cap', e, _⟩ := h3.head (by omega)
  injection e with e1 e2 e3
  subst e1 e2 e3
  have hc := h3.cellAt (at_get (us := us) (i := i) (by omega))
  have ho := h4.own i hi'
  obtain ⟨a2, cap2, e4, _⟩ := ho.shape
  rw [e4] at hc ho
  exact ⟨g, a2, cap2, rfl, hc, ho⟩

set_option maxRecDepth 100000 in
set_option maxHeartbeats 4000000 in
theorem cycleType_any {v : Value} {zs : List Int} {w : World} (h : Reads w v zs) (hp : permB zs = true) :
    Calls Try.prog 27 #[v] w (RetInts (typL zs) w) := by
  have HR := Lib.hid h
  have HP := Lib.hid hp
  have hc : (cycL zs).length ≤ 1099511627770 := by have := (cycN_bd zs zs.length).2; have := (permB_bd hp).2.1; unfold cycL; omega
  clear h hp
  go_enter Try.func27, Try.ntmps27
  go_wp2_with (go_at_call 24; with_reducible refine (cycles_any HR.out HP.out).mono ?_)
  rintro _ w1 ⟨v1, rfl, o1, hb1⟩
  obtain ⟨a1, cap1, rfl, s1, s2⟩ := o1.shape
  have HLL := Lib.hid o1
  have HB := Lib.hid hb1
  have hs2 : cap1 ≤ 9223372036854775807 := by unfold maxLen at s2; omega
  obtain ⟨L, hL⟩ : ∃ L, L = cycL zs := ⟨_, rfl⟩
  have HT := Lib.hid (show typL zs = sortL (lensL L L.length) by rw [hL]; rfl)
  rw [← hL] at HLL hc s1
  rw [← hL]
  clear o1 hb1 hL s2
  obtain ⟨n, hn⟩ : ∃ n, n = L.length := ⟨_, rfl⟩
  have HN := Lib.hid hn
  rw [← hn] at HLL hc s1 HT
  rw [← hn]
  clear hn
  go_wp2
  go_loopw [3, 9] (fun l c wr => ∃ i : Nat, c = .int .i64 (i : Int) ∧ i ≤ n ∧ Own wr w1.heap.size l (lensL L i) ∧ OwnLL wr w.heap.size w1.heap.size (.slice a1 n cap1) L ∧ Below w.heap.size w wr ∧ w1.heap.size ≤ wr.heap.size) (fun _ c _ => n - (intOf c).toNat)
  case atStart => exact ⟨0, rfl, by omega, Own.nil, HLL.out, HB.out, Nat.le_refl _⟩
  case round =>
    have HW := Lib.hid HB.out.size
    clear HLL HB
    obtain ⟨i, rfl, hi, ho, hll, hbel, hsz⟩ := hrel
    have HO := Lib.hid ho
    have HLL := Lib.hid hll
    have HB := Lib.hid hbel
    clear ho hll hbel
    by_cases hlt : i < n
    · obtain ⟨g, a2, cap2, rfl, hcell, hrow⟩ := HLL.out.rowAt (i := i) (by have := HN.out; omega)
      have HRow := Lib.hid hrow.reads
      have HNX := Lib.hid (lens_next (zss := L) (i := i) (by have := HN.out; omega))
      have HLN := Lib.hid (show (lensL L i).length + 1 ≤ 1099511627776 by rw [lens_len (by have := HN.out; omega)]; omega)
      clear hrow
      go_wp2_with (first | (go_at_call 38; ((with_reducible refine (size_int64_any HRow.out).mono ?_); rintro e w' ⟨rfl, rfl⟩)) | (at_builtin; refine append_oneG _ rfl _ _ rfl rfl HO.out HLN.out hsz rfl rfl ?_))
      intro v2 w2 o2 g2 b2
      rw [← HNX.out] at o2
      have HO2 := Lib.hid o2
      have HLL2 := Lib.hid (HLL.out.keptG g2 (fun k hk => .inr (HO.out.lt k hk).1))
      have HB2 := Lib.hid (HB.out.trans (b2.mono HW.out))
      have hsz2 : w1.heap.size ≤ w2.heap.size := Nat.le_trans hsz g2.size
      clear o2 g2 b2
      go_wp2
      go_roundw
      case rel => exact ⟨i + 1, by go_num, by omega, HO2.out, HLL2.out, HB2.out, hsz2⟩
      case measure => simp [intOf]; omega
    · obtain rfl : i = n := by omega
      go_wp2_with (go_at_call 48; with_reducible refine (sort_own HO.out).mono ?_)
      rintro _ w2 ⟨rfl, o2, hg2⟩
      have HO2 := Lib.hid (show Own w2 w.heap.size u3 (typL zs) by rw [HT.out]; exact o2.mono HW.out)
      have HB2 := Lib.hid (HB.out.grown hg2 HB.out.size (fun k hk => Nat.le_trans HW.out (HO.out.lt k hk).1))
      clear o2 hg2
      go_wp2
      go_ret
      exact ⟨_, rfl, HO2.out, HB2.out⟩

set_option maxRecDepth 100000 in
set_option maxHeartbeats 4000000 in
theorem l21Type_any {v : Value} {zs : List Int} {w : World} (h : Reads w v zs) (hp : permB zs = true) :
    Calls Try.prog 28 #[v] w (RetInts (typL zs) w) := by
  have HR := Lib.hid h
  have HP := Lib.hid hp
  have hc : (cycL zs).length ≤ 1099511627770 := by have := (cycN_bd zs zs.length).2; have := (permB_bd hp).2.1; unfold cycL; omega
  clear h hp
  go_enter Try.func28, Try.ntmps28
  go_wp2_with (go_at_call 26; with_reducible refine (l21Cycles_any HR.out HP.out).mono ?_)
  rintro _ w1 ⟨v1, rfl, o1, hb1⟩
  obtain ⟨a1, cap1, rfl, s1, s2⟩ := o1.shape
  have HLL := Lib.hid o1
  have HB := Lib.hid hb1
  have hs2 : cap1 ≤ 9223372036854775807 := by unfold maxLen at s2; omega
  obtain ⟨L, hL⟩ : ∃ L, L = cycL zs := ⟨_, rfl⟩
  have HT := Lib.hid (show typL zs = sortL (lensL L L.length) by rw [hL]; rfl)
  rw [← hL] at HLL hc s1
  rw [← hL]
  clear o1 hb1 hL s2
  obtain ⟨n, hn⟩ : ∃ n, n = L.length := ⟨_, rfl⟩
  have HN := Lib.hid hn
  rw [← hn] at HLL hc s1 HT
  rw [← hn]
  clear hn
  go_wp2
  go_loopw [4, 5] (fun l c wr => ∃ i : Nat, c = .int .i64 (i : Int) ∧ i ≤ n ∧ Own wr w1.heap.size l (lensL L i) ∧ OwnLL wr w.heap.size w1.heap.size (.slice a1 n cap1) L ∧ Below w.heap.size w wr ∧ w1.heap.size ≤ wr.heap.size) (fun _ c _ => n - (intOf c).toNat)
  case atStart => exact ⟨0, rfl, by omega, Own.empty (Nat.le_refl _), HLL.out.step (below_box _), HB.out.trans ((below_box _).mono HB.out.size), by simp⟩
  case round =>
    have HW := Lib.hid HB.out.size
    clear HLL HB
    obtain ⟨i, rfl, hi, ho, hll, hbel, hsz⟩ := hrel
    have HO := Lib.hid ho
    have HLL := Lib.hid hll
    have HB := Lib.hid hbel
    clear ho hll hbel
    by_cases hlt : i < n
    · obtain ⟨g, a2, cap2, rfl, hcell, hrow⟩ := HLL.out.rowAt (i := i) (by have := HN.out; omega)
      have HNX := Lib.hid (lens_next (zss := L) (i := i) (by have := HN.out; omega))
      have HLN := Lib.hid (show (lensL L i).length + 1 ≤ 1099511627776 by rw [lens_len (by have := HN.out; omega)]; omega)
      clear hrow
      go_wp2_with (at_builtin; refine append_oneG _ rfl _ _ rfl rfl HO.out HLN.out hsz rfl rfl ?_)
      intro v2 w2 o2 g2 b2
      rw [← HNX.out] at o2
      have HO2 := Lib.hid o2
      have HLL2 := Lib.hid (HLL.out.keptG g2 (fun k hk => .inr (HO.out.lt k hk).1))
      have HB2 := Lib.hid (HB.out.trans (b2.mono HW.out))
      have hsz2 : w1.heap.size ≤ w2.heap.size := Nat.le_trans hsz g2.size
      clear o2 g2 b2
      go_wp2
      go_roundw
      case rel => exact ⟨i + 1, by go_num, by omega, HO2.out, HLL2.out, HB2.out, hsz2⟩
      case measure => simp [intOf]; omega
    · obtain rfl : i = n := by omega
      go_wp2_with (go_at_call 49; with_reducible refine (l11Sorted_any HO.out.reads).mono ?_)
      rintro _ w2 ⟨v2, rfl, o2, hb2⟩
      have HO2 := Lib.hid (show Own w2 w.heap.size v2 (typL zs) by rw [HT.out]; exact o2.mono HB.out.size)
      have HB2 := Lib.hid (HB.out.trans (hb2.mono HB.out.size))
      clear o2 hb2
      go_wp2
      go_ret
      exact ⟨_, rfl, HO2.out, HB2.out⟩

end Go.Proofs.Ytaielmibofnddaa
