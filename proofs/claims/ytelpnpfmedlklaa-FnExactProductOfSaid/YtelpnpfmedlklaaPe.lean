/- Slices of factors: the laws' own measure, copy, comparison and marks. -/
import Derived.Test.YtelpnpfmedlklaaPd
namespace Go.Proofs.Ytelpnpfmedlklaa
open Go.RowKit
set_option linter.unusedVariables false
set_option linter.unusedSimpArgs false

set_option maxHeartbeats 2000000 in
theorem szFactorS_any {w : World} {v : Value} {n : Nat} {U : Nat → Value} {ts : List Int} (h : ARow w v n U ts) :
    Calls Try.prog 4 #[v, .int .i64 1048576] w fun e w' => ∃ q : Int, e = .returned (.int .i64 q) ∧ Below w.heap.size w w' ∧ (0 ≤ q → q = 1048576 - (n : Int) - (preU U n : Int)) := by
  obtain ⟨h1, h2, a, cap, rfl, h3, h4, h5, h6⟩ := h
  have HC := Lib.hid h5
  have HU := Lib.hid h6
  unfold maxLen at h4
  clear h5 h6 h2
  by_cases hbig : n ≤ 1048576
  · go_enter Try.func4, Try.ntmps4
    go_wp2
    go_loopw [5, 1] (fun c d wr => ∃ (i : Nat) (q : Int), c = .int .i64 (i : Int) ∧ d = .int .i64 q ∧ i ≤ n ∧ 0 ≤ q ∧ q ≤ 1048576 ∧ Hid (q = 1048576 - (n : Int) - (preU U i : Int)) ∧ Below w.heap.size w wr) (fun c _ _ => n - (intOf c).toNat)
    case atStart => exact ⟨0, 1048576 - n, rfl, by simp, by omega, by omega, by omega, by show _ = _; simp [preU], Below.refl _ _⟩
    case round =>
      obtain ⟨i, q, rfl, rfl, hi, hq0, hq1, HQ, hbel⟩ := hrel
      have HB := Lib.hid hbel
      clear hbel
      by_cases hlt : i < n
      · obtain ⟨b, o, rfl, hb, hc⟩ := HC.out (by omega)
        obtain ⟨a', len', cap', z', e, hm, _⟩ := HU.out i hlt
        have f1 := (HB.out.cell (p := ⟨b, o + i * 2, none⟩) hb).trans (hc i hlt).1
        have f2 := (HB.out.cell (p := ⟨b, o + i * 2 + 1, none⟩) hb).trans (hc i hlt).2
        rw [e] at f1
        obtain ⟨r, hr⟩ : ∃ r, szV q len' = r := ⟨_, rfl⟩
        have HRV := Lib.hid hr
        have hr2 : r = -1 ∨ (0 ≤ r ∧ r ≤ 1048576 ∧ r = q - len') := by subst hr; unfold szV; split <;> omega
        have HL := Lib.hid (show preU U (i + 1) = preU U i + len' by rw [preU, e]; rfl)
        generalize el ts i = t at *
        clear hr hc e
        by_cases hneg : r < 0
        · go_wp2_with (go_at_call 13; with_reducible refine (calls_int (szFactor_any hm ⟨hq0, hq1⟩) HRV.out).mono ?_)
          rintro _ w1 ⟨rfl, hb1⟩
          go_wp2
          go_ret
          exact ⟨-1, rfl, HB.out.trans (hb1.mono HB.out.size), fun h => by omega⟩
        · have HR2 := Lib.hid (show r = q - len' by omega)
          have hr3 : r ≤ 1048576 := by omega
          have hr4 : 0 ≤ r := by omega
          clear hr2
          go_wp2_with (go_at_call 13; with_reducible refine (calls_int (szFactor_any hm ⟨hq0, hq1⟩) HRV.out).mono ?_)
          rintro _ w1 rfl hb1
          go_wp2
          go_roundw
          case rel => exact ⟨i + 1, r, by go_num, rfl, by omega, hr4, hr3, by have := HQ.out; have := HL.out; have := HR2.out; show r = _; omega, HB.out.trans (hb1.mono HB.out.size)⟩
          case measure => simp [intOf]; omega
      · obtain rfl : i = n := by omega
        go_wp2
        go_ret
        exact ⟨q, rfl, HB.out, fun _ => HQ.out⟩
  · go_enter Try.func4, Try.ntmps4
    go_wp2
    go_ret
    exact ⟨-1, rfl, Below.refl _ _, fun h => by omega⟩

theorem touch_set {a b : Nat} {w : World} {p : Addr} {v : Value} (h : a ≤ p.block ∧ p.block < b) : Touch a b w (w.setCell p v) :=
  ⟨rfl, rfl, rfl, by simp [World.setCell], fun k hk hr => Below.heap_setCell _ _ _ _ (by omega)⟩
set_option maxHeartbeats 2000000 in
theorem toFactor_any {u : Value} {z : List Int} {t : Int} {w : World} (h : Reads w u z) :
    Calls Try.prog 18 #[.agg #[u, .int .i64 t]] w fun e w' => ∃ u', e = .returned (.agg #[u', .int .i64 t]) ∧ Own w' w.heap.size u' z ∧ Below w.heap.size w w' := by
  obtain ⟨a, cap, rfl, _, _⟩ := reads_nil_eq h
  have HR := Lib.hid (h.step (((below_box (w := w) (.cells #[.slice a z.length cap, .int .i64 t] 36)).alloc (by simp) (.cells #[.slice none 0 0, .int .i64 0] 39)).alloc (by simp; omega) (.cells #[.slice none 0 0, .int .i64 0] 39)))
  have AL := alloc_ite
  clear h
  go_enter Try.func18, Try.ntmps18
  go_wp2_with (go_at_call 31; with_reducible refine (toInt64S_any HR.out).mono ?_)
  rintro _ w1 ⟨v1, rfl, o1, hb1⟩
  obtain ⟨a1, c1, rfl, _, _⟩ := reads_nil_eq o1.reads
  obtain ⟨c, f, s⟩ := bfacts2 hb1
  simp at s
  have HO := Lib.hid o1
  have HB := Lib.hid hb1
  have s1 : w.heap.size < w1.heap.size := by omega
  clear o1 hb1
  go_wp2
  refine bodyPost_ret (v := .agg #[.slice a1 z.length c1, .int .i64 t]) (by simp [results, Try.results18, go_sem, ↓IntWalk.iteOmega, *]) rfl ?_
  have hge : ∀ k, (Value.slice a1 z.length c1).ownBlock = some k → w.heap.size + 3 ≤ k := fun k hk => by
    have := (HO.out.lt k hk).1
    simp at this; omega
  refine ⟨_, rfl, (HO.out.touch (a := w.heap.size) (b := w.heap.size + 3) ((((touch_set (by simp; omega)).trans (touch_set (by simp; omega))).trans (touch_set (by simp))).trans (touch_set (by simp))) (fun k hk => .inr (hge k hk))).mono (by simp; omega), ?_⟩
  exact (((((((below_box (w := w) (.cells #[.slice a z.length cap, .int .i64 t] 36)).alloc (by simp) (.cells #[.slice none 0 0, .int .i64 0] 39)).alloc (by simp; omega) (.cells #[.slice none 0 0, .int .i64 0] 39)).trans (HB.out.mono (by simp; omega))).setCell (by simp; omega) _).setCell (by simp; omega) _).setCell (by simp) _).setCell (by simp) _

/-! ### the copy -/
def fillP (us : List Value) (ts : List Int) (k n : Nat) : List (Value × Int) := us.zip (ts.take k) ++ List.replicate (n - k) (nilS, 0)
theorem zip_len {us : List Value} {ts : List Int} {k : Nat} (h1 : us.length = k) (h2 : k ≤ ts.length) : (us.zip (ts.take k)).length = k := by
  rw [List.length_zip, List.length_take, h1]; omega
theorem fill_len {us : List Value} {ts : List Int} {k n : Nat} (h1 : us.length = k) (h2 : k ≤ n) (h3 : ts.length = n) : (fillP us ts k n).length = n := by
  unfold fillP; rw [List.length_append, zip_len h1 (by omega), List.length_replicate]; omega
theorem fill_at {us : List Value} {ts : List Int} {k n : Nat} (h1 : us.length = k) (h2 : k < n) (h3 : ts.length = n) : pv (fillP us ts k n) k = nilS ∧ pn (fillP us ts k n) k = 0 := by
  unfold pv pn fillP
  rw [List.getD_eq_getElem?_getD, List.getElem?_append_right (by rw [zip_len h1 (by omega)]; exact Nat.le_refl _), zip_len h1 (by omega), Nat.sub_self, List.getElem?_replicate, if_pos (by omega)]
  exact ⟨rfl, rfl⟩
theorem fill_next {us : List Value} {ts : List Int} {k n : Nat} {u : Value} (h1 : us.length = k) (h2 : k < n) (h3 : ts.length = n) : (fillP us ts k n).set k (u, el ts k) = fillP (us ++ [u]) ts (k + 1) n := by
  have e1 : ts.take (k + 1) = ts.take k ++ [el ts k] := by
    rw [List.take_add_one, el_get (by omega)]; rfl
  have e2 : List.replicate (n - k) (nilS, (0 : Int)) = (nilS, 0) :: List.replicate (n - (k + 1)) (nilS, 0) := by
    rw [show n - k = n - (k + 1) + 1 by omega, List.replicate_succ]
  unfold fillP
  rw [e1, List.zip_append (by rw [List.length_take, h1]; omega), e2, List.set_append_right _ _ (by rw [zip_len h1 (by omega)]; exact Nat.le_refl _), zip_len h1 (by omega), Nat.sub_self]
  simp
theorem fill_all {us : List Value} {ts : List Int} {n : Nat} (h1 : us.length = n) (h3 : ts.length = n) : (fillP us ts n n).map (·.1) = us ∧ (fillP us ts n n).map (·.2) = ts := by
  unfold fillP
  rw [Nat.sub_self, List.replicate_zero, List.append_nil, List.take_of_length_le (by omega)]
  exact ⟨List.map_fst_zip (by omega), List.map_snd_zip (by omega)⟩
theorem take_row {zss : List (List Int)} {k : Nat} (h : k < zss.length) : zss.take (k + 1) = zss.take k ++ [row zss k] := by
  rw [List.take_add_one, row, List.getD_eq_getElem?_getD, List.getElem?_eq_getElem h]; rfl

set_option maxHeartbeats 4000000 in
theorem toFactorS_any {v : Value} {zss : List (List Int)} {ts : List Int} {w : World} (h : FReads w v zss ts) :
    Calls Try.prog 6 #[v] w (RetF zss ts w) := by
  obtain ⟨i0, hi, hz0, hz1, hz2⟩ := info_parts infoF
  obtain ⟨h1, h2, h2', a, cap, U, rfl, h3, h4, h5, h6⟩ := h
  obtain ⟨n, hn⟩ : ∃ n, zss.length = n := ⟨_, rfl⟩
  rw [hn] at h1 h2 h3 h5 h6 ⊢
  have HN := Lib.hid hn
  have HT := Lib.hid h1
  have HC := Lib.hid h5
  have HU := Lib.hid h6
  have HTB := Lib.hid h2'
  clear h5 h6 hn h2'
  go_enter Try.func6, Try.ntmps6
  go_wp2_with (at_make; refine wpList_make_full _ rfl _ _ 27 rfl w.heap.size 39 i0 (.agg #[.slice none 0 0, .int .i64 0]) 2 Try.underlying27 hi hz0 hz1 .i64 .i64 (n : Int) (n : Int) n rfl rfl rfl rfl (by rw [hz2]; omega) (by unfold maxLen; omega) (Nat.le_refl _) ?_)
  intro w1 hown hgrow
  rw [made_pairs] at hown
  have HO := Lib.hid (show OwnP w1 w.heap.size (.slice (some ⟨w.heap.size, 0, none⟩) n n) (fillP [] ts 0 n) by
    show w1.ownsRow _ _ _ _ (fillP [] ts 0 n).length _
    rw [fill_len (us := []) (k := 0) rfl (by omega) HT.out]
    exact hown)
  have HB := Lib.hid (show Below w.heap.size w w1 from (Below.refl _ _).grown hgrow (Nat.le_refl _) (fun k hk => by cases hk))
  clear hown hgrow
  go_wp2
  go_loopw [4] (fun c wr => ∃ (k : Nat) (us : List Value), c = .int .i64 (k : Int) ∧ k ≤ n ∧ Hid (us.length = k) ∧ OwnP wr w.heap.size (.slice (some ⟨w.heap.size, 0, none⟩) n n) (fillP us ts k n) ∧ Fam wr w.heap.size wr.heap.size us (zss.take k) ∧ Below w.heap.size w wr) (fun c _ => n - (intOf c).toNat)
  case atStart => exact ⟨0, [], rfl, by omega, rfl, HO.out, by rw [List.take_zero]; exact Fam.nil, HB.out⟩
  case round =>
    clear HO HB
    obtain ⟨k, us, rfl, hk, HUL, hown, hfam, hbel⟩ := hrel
    have HO := Lib.hid hown
    have HF := Lib.hid hfam
    have HB := Lib.hid hbel
    have hs := hbel.size
    clear hown hfam hbel
    by_cases hlt : k < n
    · obtain ⟨b, o, rfl, hb, hc⟩ := HC.out (by omega)
      have hrk := (HU.out k hlt).step (w' := wr) (by
        exact (HB.out))
      obtain ⟨a', cap', e, _, _⟩ := reads_nil_eq hrk
      have f1 := (HB.out.cell (p := ⟨b, o + k * 2, none⟩) hb).trans (hc k hlt).1
      have f2 := (HB.out.cell (p := ⟨b, o + k * 2 + 1, none⟩) hb).trans (hc k hlt).2
      rw [e] at f1 hrk
      have HRK := Lib.hid hrk
      obtain ⟨t, ht⟩ : ∃ t, el ts k = t := ⟨_, rfl⟩
      rw [ht] at f2
      have HTT := Lib.hid ht
      clear hc hrk e ht
      go_wp2_with (go_at_call 18; with_reducible refine (toFactor_any HRK.out).mono ?_)
      rintro _ w2 ⟨u', rfl, o2, hb2⟩
      obtain ⟨a2, c2, e2, _, _⟩ := reads_nil_eq o2.reads
      subst e2
      have HO2 := Lib.hid (show OwnP w2 w.heap.size (.slice (some ⟨w.heap.size, 0, none⟩) n n) (fillP us ts k n) from RowOwn.step HO.out hb2)
      have hfl := fill_len (ts := ts) HUL.out hk HT.out
      obtain ⟨g1, g2⟩ := OwnP.at HO2.out (i := k) (by rw [hfl]; exact hlt)
      rw [(fill_at HUL.out hlt HT.out).1] at g1
      rw [(fill_at HUL.out hlt HT.out).2] at g2
      have g3 := OwnP.frozen HO2.out (k * 2)
      have g4 := OwnP.frozen HO2.out (k * 2 + 1)
      have HFL := Lib.hid hfl
      have HO3 := Lib.hid o2
      have HB2 := Lib.hid hb2
      have hs2 := hb2.size
      unfold nilS at g1
      clear o2 hb2 hfl
      go_wp2
      obtain ⟨q1, q2⟩ := OwnP.stored HO2.out (i := k) (by rw [HFL.out]; exact hlt) (.slice a2 (row zss k).length c2) t
      rw [← HTT.out, fill_next HUL.out hlt HT.out, HTT.out] at q1
      have hF2 := HF.out.step HB2.out
      have hF3 := hF2.kept q2 (fun i hi => own_types (by decide) (hF2.own i hi).2 HO2.out)
      have hu3 := HO3.out.kept q2 (own_types (by decide) HO3.out.2 HO2.out)
      have hF4 := hF3.snoc hu3 hs (Nat.le_trans hs2 q2.size) (Nat.le_refl _)
      rw [← take_row (by rw [HN.out]; exact hlt)] at hF4
      go_roundw
      case rel => exact ⟨k + 1, us ++ [.slice a2 (row zss k).length c2], by go_num, by omega, by show _ = _; rw [List.length_append, HUL.out]; rfl, q1, hF4, ((HB.out.trans (HB2.out.mono hs)).setCell (Nat.le_refl _) _).setCell (Nat.le_refl _) _⟩
      case measure => simp [intOf]; omega
    · obtain rfl : k = n := by omega
      go_wp2
      go_ret
      have hf := HF.out
      rw [List.take_of_length_le (by rw [HN.out]; exact Nat.le_refl _)] at hf
      refine ⟨_, rfl, ⟨Nat.le_refl _, fun j hj => ?_, by rw [HN.out]; exact h2, HTB.out, _, HO.out, ?_, (fill_all HUL.out HT.out).2⟩, HB.out⟩
      · cases hj
        exact (RowOwn.lt HO.out w.heap.size rfl).2
      · rw [(fill_all HUL.out HT.out).1]
        exact hf

/-! ### the comparison -/
theorem eqFactor_same {u u' : Value} {z : List Int} {t : Int} {w : World} (h : Reads w u z) (h' : Reads w u' z) :
    Calls Try.prog 26 #[.agg #[u, .int .i64 t], .agg #[u', .int .i64 t]] w fun e w' => e = .returned (.bool true) ∧ Below w.heap.size w w' := by
  obtain ⟨a, cap, rfl, _, _⟩ := reads_nil_eq h
  obtain ⟨a', cap', rfl, _, _⟩ := reads_nil_eq h'
  have hb0 := (below_box (w := w) (.cells #[.slice a z.length cap, .int .i64 t] 39)).alloc (by simp) (.cells #[.slice a' z.length cap', .int .i64 t] 39)
  have HR := Lib.hid (h.step hb0)
  have HR' := Lib.hid (h'.step hb0)
  have HB0 := Lib.hid hb0
  clear h h' hb0
  go_enter Try.func26, Try.ntmps26
  go_wp2_with (go_at_call 8; with_reducible refine (eqInt64S_same HR.out HR'.out).mono ?_)
  rintro _ w1 ⟨rfl, hb1⟩
  obtain ⟨c, f, s⟩ := bfacts2 hb1
  simp at s
  have AL := alloc_ite
  go_wp2
  go_ret
  exact ⟨rfl, HB0.out.trans (hb1.mono (by simp; omega))⟩

set_option maxHeartbeats 2000000 in
theorem eqFactorS_same {v u : Value} {zss : List (List Int)} {ts : List Int} {w : World} (h : FReads w v zss ts) (h' : FReads w u zss ts) :
    Calls Try.prog 9 #[v, u] w fun e w' => e = .returned (.bool true) ∧ Below w.heap.size w w' := by
  obtain ⟨h1, h2, h2', a, cap, U, rfl, h3, h4, h5, h6⟩ := h
  obtain ⟨_, _, _, a', cap', U', rfl, h3', h4', h5', h6'⟩ := h'
  obtain ⟨n, hn⟩ : ∃ n, zss.length = n := ⟨_, rfl⟩
  rw [hn] at h1 h2 h2' h3 h5 h6 h3' h5' h6' ⊢
  have HC := Lib.hid h5
  have HU := Lib.hid h6
  have HC' := Lib.hid h5'
  have HU' := Lib.hid h6'
  clear h5 h6 h5' h6' hn h2'
  go_enter Try.func9, Try.ntmps9
  go_wp2
  go_loopw [5] (fun c wr => ∃ k : Nat, c = .int .i64 (k : Int) ∧ k ≤ n ∧ Below w.heap.size w wr) (fun c _ => n - (intOf c).toNat)
  case atStart => exact ⟨0, rfl, by omega, Below.refl _ _⟩
  case round =>
    obtain ⟨k, rfl, hk, hbel⟩ := hrel
    have HB := Lib.hid hbel
    have hsz := hbel.size
    clear hbel
    by_cases hlt : k < n
    · obtain ⟨b, o, rfl, hb, hc⟩ := HC.out (by omega)
      obtain ⟨b', o', rfl, hb', hc'⟩ := HC'.out (by omega)
      have f1 := (HB.out.cell (p := ⟨b, o + k * 2, none⟩) hb).trans (hc k hlt).1
      have f2 := (HB.out.cell (p := ⟨b, o + k * 2 + 1, none⟩) hb).trans (hc k hlt).2
      have f1' := (HB.out.cell (p := ⟨b', o' + k * 2, none⟩) hb').trans (hc' k hlt).1
      have f2' := (HB.out.cell (p := ⟨b', o' + k * 2 + 1, none⟩) hb').trans (hc' k hlt).2
      have f3 : b < wr.heap.size := by omega
      have f4 : b' < wr.heap.size := by omega
      have r1 : ∀ x, Reads (wext wr x) (U k) (row zss k) := fun x => ((HU.out k hlt).step HB.out).step (wext_below wr x)
      have r2 : ∀ x, Reads (wext wr x) (U' k) (row zss k) := fun x => ((HU'.out k hlt).step HB.out).step (wext_below wr x)
      obtain ⟨t, ht⟩ : ∃ t, el ts k = t := ⟨_, rfl⟩
      rw [ht] at f2 f2'
      clear hc hc' ht
      go_wp2_with (first | (go_at_call 26; ((with_reducible refine (eqFactor_same (r1 _) (r2 _)).mono ?_); rintro e w1_hb0 ⟨rfl, hb0⟩; obtain ⟨chb0, fhb0, shb0⟩ := bfacts2 hb0; (try simp at shb0))) | (refine wp_region_wext (by kernel_rfl) (by kernel_rfl) ?_; (repeat (go_big_quiet_step (first | (go_at_call 26; with_reducible refine calls_wext (eqFactor_same (r1 _) (r2 _)))))); refine wpQuiet_nil ?_; intro w1_hbq hbq; replace hbq := below_of_wext hbq; obtain ⟨chbq, fhbq, shbq⟩ := bfacts2 hbq; (try simp at shbq)))
      go_roundw
      case rel => exact ⟨k + 1, by go_num, by omega, by have := HB.out; first | exact this.trans (by assumption) | exact this.trans ((by assumption : Below wr.heap.size wr _).mono (by have := HB.out.size; omega))⟩
      case measure => simp [intOf]; omega
    · obtain rfl : k = n := by omega
      go_wp2
      go_ret
      exact ⟨rfl, HB.out⟩

/-! ### the marks -/
theorem set_self (us : List Value) (i : Nat) {u : Value} (h : u = at_ us i) : us.set i u = us := by
  apply List.ext_getElem?
  intro j
  rw [List.getElem?_set]
  by_cases e : i = j
  · subst e
    rw [if_pos rfl]
    by_cases hl : i < us.length
    · rw [if_pos hl, h, at_get hl]
    · rw [if_neg hl, List.getElem?_eq_none (by omega)]
  · rw [if_neg e]
set_option maxHeartbeats 2000000 in
theorem markFactorS_any {v : Value} {zss : List (List Int)} {ts : List Int} {lo hi : Nat} {w : World} (h : OwnF w lo hi v zss ts) (hp : pre zss zss.length ≤ 1048576) :
    Calls Try.prog 10 #[v, .int .i64 1] w fun e w' => ∃ q : Int, e = .returned (.int .i64 q) ∧ 0 ≤ q ∧ q ≤ 1099511627776 ∧ Touch lo hi w w' := by
  obtain ⟨h1, h2, h3, h3', P, h4, h5, h6⟩ := h
  have hpl : P.length = zss.length := by have := h5.len; simpa using this
  obtain ⟨n, hn⟩ : ∃ n, zss.length = n := ⟨_, rfl⟩
  rw [hn] at h3 hp hpl
  obtain ⟨a, cap, e, hcap, hg⟩ := RowOwn.open h4
  rw [hpl] at e hcap hg
  subst e
  have HN := Lib.hid hn
  have HG := Lib.hid hg
  have HO := Lib.hid h4
  have HF := Lib.hid h5
  have HT := Lib.hid h2
  have HPL := Lib.hid hpl
  clear h1 h2 h3' h4 h5 h6 hn hg hpl
  go_enter Try.func10, Try.ntmps10
  go_wp2
  go_loopw [5, 1] (fun c d wr => ∃ (i : Nat) (q : Int) (P' : List (Value × Int)) (zs' : List (List Int)), c = .int .i64 (i : Int) ∧ d = .int .i64 q ∧ i ≤ n ∧ 0 ≤ q ∧ q ≤ 1 + (pre zss i : Int) + i ∧ Hid (P'.length = n ∧ P'.map (·.1) = P.map (·.1) ∧ zs'.length = n ∧ ∀ j, (row zs' j).length = (row zss j).length) ∧ OwnP wr lo (.slice a n cap) P' ∧ Fam wr lo hi (P'.map (·.1)) zs' ∧ Touch lo hi w wr) (fun c _ _ => n - (intOf c).toNat)
  case atStart => exact ⟨0, 1, P, zss, rfl, rfl, by omega, by omega, by simp [pre], ⟨HPL.out, rfl, HN.out, fun _ => rfl⟩, HO.out, HF.out, Touch.refl⟩
  case round =>
    clear HO HF
    obtain ⟨i, q, P', zs', rfl, rfl, hi', hq0, hq1, HP, hown, hfam, htou⟩ := hrel
    have HO := Lib.hid hown
    have HF := Lib.hid hfam
    have HTO := Lib.hid htou
    clear hown hfam htou
    by_cases hlt : i < n
    · obtain ⟨g, rfl, g1, g2⟩ := HG.out i hlt
      have hgs : g < wr.heap.size := by have := HTO.out.size; omega
      obtain ⟨x1, x2⟩ := OwnP.at HO.out (i := i) (by rw [HP.out.1]; exact hlt)
      have hfz := OwnP.frozen HO.out (i * 2 + 1)
      have hown := HF.out.own i (by rw [HP.out.2.2.1]; exact hlt)
      rw [pv_at] at hown
      have hlen := HP.out.2.2.2 i
      have hpm := pre_mono zss (show i + 1 ≤ n from hlt)
      rw [pre] at hpm
      have HOI := Lib.hid hown
      obtain ⟨a1, c1, e1, _, _⟩ := reads_nil_eq hown.reads
      rw [e1] at x1
      have HOI2 := Lib.hid (show Own wr lo (.slice a1 (row zs' i).length c1) (row zs' i) by rw [← e1]; exact hown)
      have HE := Lib.hid e1
      have HL := Lib.hid hlen
      clear hown e1 hlen
      go_wp2_with (go_at_call 11; with_reducible refine (markInt64S_any _ (by omega) (by have := HL.out; omega) HOI2.out).mono ?_)
      rintro _ w2 rfl o2 hg2
      have HO2 := Lib.hid (show OwnP w2 lo (.slice (some ⟨g, 0, none⟩) n cap) P' from RowOwn.kept HO.out hg2 (own_types (by decide) HO.out HOI2.out.2))
      have hii : i < zs'.length := by rw [HP.out.2.2.1]; exact hlt
      have hfm := HF.out.upd hii (by rw [pv_at, HE.out]; exact o2) (by rw [pv_at, HE.out]; exact hg2)
      have HT2 := Lib.hid (HTO.out.trans (Touch.of_grown hg2 (fun j hj => ⟨(HOI2.out.lt j hj).1, HF.out.top i hii j (by rw [pv_at, HE.out]; exact hj)⟩)))
      obtain ⟨y1, y2⟩ := OwnP.at HO2.out (i := i) (by rw [HP.out.1]; exact hlt)
      have hfz2 := OwnP.frozen HO2.out (i * 2 + 1)
      have hgs2 : g < w2.heap.size := by have := hg2.size; omega
      have HFM := Lib.hid hfm
      have hq2 : 0 ≤ q + ((row zs' i).length : Int) := by omega
      have hq3 : q + ((row zs' i).length : Int) ≤ 1 + ((pre zss i : Int) + (row zss i).length) + i := by have := HL.out; omega
      have hq4 : q + ((row zs' i).length : Int) ≤ 1099511627776 := by omega
      rw [HE.out] at y1
      obtain ⟨qq, hqq⟩ : ∃ qq, q + ((row zs' i).length : Int) = qq := ⟨_, rfl⟩
      rw [hqq] at hq2 hq3 hq4 ⊢
      clear o2 hg2 hfm hqq x1 x2 hfz
      go_wp2
      obtain ⟨k1, k2⟩ := OwnP.stored1 HO2.out (i := i) (by rw [HP.out.1]; exact hlt) qq
      have e1 : (P'.set i (pv P' i, qq)).map (·.1) = P'.map (·.1) := by
        rw [List.map_set]
        exact set_self _ _ (by rw [← pv_at])
      have hf3 := HFM.out.kept k2 (fun j hj => own_types (by decide) (HFM.out.own j hj).2 HO2.out)
      have ht3 := HT2.out.trans (Touch.of_grown k2 (fun j hj => by cases hj; exact ⟨g2, HT.out g rfl⟩))
      go_roundw
      case rel => exact ⟨i + 1, qq + 1, P'.set i (pv P' i, qq), zs'.set i (seqL q (row zs' i).length), by go_num, rfl, by omega, by omega, by rw [pre]; omega, ⟨by rw [List.length_set]; exact HP.out.1, by rw [e1]; exact HP.out.2.1, by rw [List.length_set]; exact HP.out.2.2.1, fun j => by
        rw [row_set hii]
        split
        · rename_i e; subst e; rw [seq_len]; exact HP.out.2.2.2 i
        · exact HP.out.2.2.2 j⟩, k1, by rw [e1]; exact hf3, ht3⟩
      case measure => simp [intOf]; omega
    · obtain rfl : i = n := by omega
      go_wp2
      go_ret
      exact ⟨q, rfl, hq0, by omega, HTO.out⟩

end Go.Proofs.Ytelpnpfmedlklaa
