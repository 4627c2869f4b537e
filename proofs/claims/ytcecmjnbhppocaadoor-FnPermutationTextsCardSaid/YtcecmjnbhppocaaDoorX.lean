/- Contracts: the cycles of a permutation. -/
import Derived.Test.YtcecmjnbhppocaaDoorW
import Derived.Test.YtcecmjnbhppocaaDoorH
namespace Go.Proofs.YtcecmjnbhppocaaDoor
open Go.RowKit
set_option linter.unusedVariables false
set_option linter.unusedSimpArgs false

def bools (l : List Bool) : List Value := l.map Value.bool
theorem bools_at {l : List Bool} {k : Nat} {b : Bool} (hk : k < l.length) (h : l.getD k true = b) : (bools l)[k]? = some (.bool b) := by
  rw [bools, List.getElem?_map, List.getElem?_eq_getElem hk]
  rw [List.getD_eq_getElem?_getD, List.getElem?_eq_getElem hk] at h
  simpa using h
theorem bools_set (l : List Bool) (k : Nat) : (bools l).set k (.bool true) = bools (l.set k true) := by rw [bools, bools, List.map_set]

/-- What the inner loop keeps. -/
structure CycInv (zs : List Int) (i g : Nat) (seen : List Bool) (cyc : List Int) (K : Int) : Prop where
  len : seen.length = zs.length
  left : unseen seen ≤ g
  room : cyc.length + g ≤ zs.length
  k0 : 0 ≤ K
  k1 : K < zs.length
  goal : walkC zs g seen cyc K = walkC zs zs.length (cycN zs i).1 [] i
theorem cycInv_start {zs : List Int} {i : Nat} (hi : i < zs.length) : CycInv zs i zs.length (cycN zs i).1 [] i :=
  ⟨(cycN_bd zs i).1, by have := unseen_le (cycN zs i).1; have := (cycN_bd zs i).1; omega, by simp, by omega, by omega, rfl⟩
theorem cycInv_step {zs : List Int} {i g : Nat} {seen : List Bool} {cyc : List Int} {K : Int} (h : CycInv zs i g seen cyc K) (hp : ∀ k, k < zs.length → 0 ≤ el zs k ∧ el zs k < zs.length) (hs : seen.getD K.toNat true = false) :
    0 < g ∧ CycInv zs i (g - 1) (seen.set K.toNat true) (cyc ++ [K]) (el zs K.toNat) := by
  obtain ⟨u1, u2⟩ := unseen_set hs
  have hg : 0 < g := by have := h.left; omega
  obtain ⟨g', rfl⟩ : ∃ g', g = g' + 1 := ⟨g - 1, by omega⟩
  have hp' := hp K.toNat (by have := h.k1; have := h.k0; omega)
  refine ⟨hg, by simpa using h.len, by have := h.left; omega, by have := h.room; simp; omega, hp'.1, hp'.2, ?_⟩
  rw [Nat.add_sub_cancel, ← h.goal, walkC_go hs]
theorem cycInv_end {zs : List Int} {i g : Nat} {seen : List Bool} {cyc : List Int} {K : Int} (h : CycInv zs i g seen cyc K) (hs : seen.getD K.toNat true = true) :
    (cycN zs (i + 1)).1 = seen ∧ (cyc = [] → (cycN zs (i + 1)).2 = (cycN zs i).2) ∧ (cyc ≠ [] → (cycN zs (i + 1)).2 = (cycN zs i).2 ++ [cyc]) := by
  have h1 := h.goal
  rw [walkC_stop hs] at h1
  simp only [cycN, ← h1]
  refine ⟨trivial, fun he => ?_, fun he => ?_⟩
  · rw [if_pos (by simpa using he)]
  · rw [if_neg (by simpa using he)]

theorem ll_nil {w : World} {lo : Nat} : OwnLL w lo w.heap.size (.slice none 0 0) [] := ⟨Nat.le_refl _, (fun k hk => by cases hk), [], OwnV.nil, Fam.nil⟩
theorem ll_empty {w : World} {lo : Nat} (h : lo ≤ w.heap.size) : OwnLL (w.alloc (.cells #[] 22)) lo (w.alloc (.cells #[] 22)).heap.size (.slice (some ⟨w.heap.size, 0, none⟩) 0 0) [] :=
  ⟨Nat.le_refl _, (fun k hk => by simp [Value.ownBlock] at hk; subst hk; simp), [], OwnV.empty h, Fam.nil⟩
set_option maxHeartbeats 4000000 in
theorem cycles_any {v : Value} {zs : List Int} {w : World} (h : Reads w v zs) (hp : permB zs = true) :
    Calls Tryd.prog 41 #[v] w (RetLL (cycL zs) w) := by
  obtain ⟨i0, hi, hz0, hz1, hz2⟩ := info_parts infoBool
  obtain ⟨hp1, hp2, hp3⟩ := permB_bd hp
  have HP := Lib.hid hp3
  have HR := Lib.hid h
  clear hp hp3
  obtain ⟨hL, a, cap, rfl, hcap, hmax, hcell⟩ := h
  obtain ⟨b, o, rfl, hb, hc⟩ := hcell (by omega)
  have HC := Lib.hid hc
  clear hcell hc
  go_enter Tryd.func41, Tryd.ntmps41
  go_wp2_with (at_make; refine wpList_make_full _ rfl _ _ 63 rfl w.heap.size 4 i0 (.bool false) 1 Tryd.underlying63 hi hz0 hz1 .i64 .i64 (zs.length : Int) (zs.length : Int) zs.length rfl rfl rfl rfl (by rw [hz2]; omega) (by unfold maxLen; omega) (Nat.le_refl _) ?_)
  intro w1 hown hgrow
  rw [made_all _ _ rfl] at hown
  have HS := Lib.hid (show OwnV 4 w1 w.heap.size (.slice (some ⟨w.heap.size, 0, none⟩) zs.length zs.length) (bools (cycN zs 0).1) by simp only [cycN, bools, List.map_replicate]; exact ⟨by simp; omega, by simpa using hown⟩)
  have HB := Lib.hid (show Below w.heap.size w w1 from (Below.refl _ _).grown hgrow (Nat.le_refl _) (fun k hk => by cases hk))
  clear hown hgrow
  have HR1 := Lib.hid (HR.out.step HB.out)
  go_wp2_with (go_at_call 39; ((with_reducible refine (size_int64_any HR1.out).mono ?_); rintro e w' ⟨rfl, rfl⟩))
  go_wp2
  go_loopw [3, 13] (fun l c wr => ∃ i : Nat, c = .int .i64 (i : Int) ∧ i ≤ zs.length ∧ OwnLL wr w.heap.size wr.heap.size l (cycN zs i).2 ∧ OwnV 4 wr w.heap.size (.slice (some ⟨w.heap.size, 0, none⟩) zs.length zs.length) (bools (cycN zs i).1) ∧ Below w.heap.size w wr) (fun _ c _ => zs.length - (intOf c).toNat)
  case atStart => exact ⟨0, rfl, by omega, ll_nil, HS.out, HB.out⟩
  case round =>
    clear HS HB HR1
    obtain ⟨i, rfl, hi, hll, hs, hbel⟩ := hrel
    have HLL := Lib.hid hll
    have HS := Lib.hid hs
    have HB := Lib.hid hbel
    clear hll hs hbel
    by_cases hlt : i < zs.length
    · go_wp2
      go_loopg [6, 7] zs.length (fun g c k wr2 => ∃ (seen : List Bool) (cyc : List Int) (K : Int), k = .int .i64 K ∧ CycInv zs i g seen cyc K ∧ Own wr2 wr.heap.size c cyc ∧ OwnV 4 wr2 w.heap.size (.slice (some ⟨w.heap.size, 0, none⟩) zs.length zs.length) (bools seen) ∧
        OwnLL wr2 w.heap.size wr.heap.size u3 (cycN zs i).2 ∧ Below w.heap.size w wr2 ∧ wr.heap.size ≤ wr2.heap.size)
      case atStart => exact ⟨_, _, _, rfl, cycInv_start hlt, Own.nil, HS.out, HLL.out, HB.out, Nat.le_refl _⟩
      case round =>
        have HW := Lib.hid HB.out.size
        clear HLL HS HB
        obtain ⟨seen, cyc, K, rfl, hinv, hc, hs, hll, hbel, hsz⟩ := hrel
        have HI := Lib.hid hinv
        have HO := Lib.hid hc
        have HS := Lib.hid hs
        have HLL := Lib.hid hll
        have HB := Lib.hid hbel
        obtain ⟨k0, k1, hlen⟩ : 0 ≤ K ∧ K < zs.length ∧ seen.length = zs.length := ⟨hinv.k0, hinv.k1, hinv.len⟩
        clear hinv hc hs hll hbel
        rcases Bool.eq_false_or_eq_true (seen.getD K.toNat true) with hsn | hsn
        · have f1 := HS.out.cellAt (bools_at (by omega) hsn)
          obtain ⟨e1, e2, e3⟩ := cycInv_end HI.out hsn
          have E1 := Lib.hid e1
          clear hsn e1
          by_cases hnil : cyc = []
          · have E2 := Lib.hid (e2 hnil)
            subst hnil
            obtain ⟨ca, ccap, rfl, _, _, _⟩ := HO.out.shape
            clear e2 e3
            go_wp2
            go_roundw
            case rel => exact ⟨i + 1, by go_num, by omega, by rw [E2.out]; exact HLL.out.up, by rw [E1.out]; exact HS.out, HB.out⟩
            case measure => simp [intOf]; omega
          · have E3 := Lib.hid (e3 hnil)
            obtain ⟨ca, ccap, rfl, _, _, _⟩ := HO.out.shape
            have hpos : 0 < cyc.length := by cases cyc <;> simp_all
            obtain ⟨l1, l2, us, l3, l4⟩ := HLL.out
            have HV := Lib.hid l3
            have HF := Lib.hid l4
            clear e2 e3 l2 l3 l4 hnil
            go_wp2_with (at_builtin; refine append_oneV info6464 Tryd.underlying53 rfl (by omega) _ rfl _ _ rfl rfl HV.out (by have := HF.out.len; have := (cycN_bd zs i).2; omega) HB.out.size rfl rfl rfl ?_)
            intro v1 w2 hv1 hg1 hb1
            have HL1 := Lib.hid (OwnLL.snoc HV.out HF.out HO.out HW.out hsz hv1 hg1)
            have HS1 := Lib.hid (HS.out.kept hg1 (own_typesV (by decide) HS.out HV.out))
            have HB1 := Lib.hid (HB.out.trans hb1)
            clear hv1 hg1 hb1
            go_wp2
            go_roundw
            case rel => exact ⟨i + 1, by go_num, by omega, by rw [E3.out]; exact HL1.out, by rw [E1.out]; exact HS1.out, HB1.out⟩
            case measure => simp [intOf]; omega
        · have f1 := HS.out.cellAt (bools_at (by omega) hsn)
          have f2 := HS.out.frozenAt K.toNat
          obtain ⟨g0, st⟩ := cycInv_step HI.out HP.out hsn
          have ST := Lib.hid st
          obtain ⟨s1, s2⟩ := HS.out.stored K.toNat (.bool true)
          rw [bools_set] at s1
          have HS1 := Lib.hid s1
          have HO1 := Lib.hid (HO.out.kept s2 (own_typesI (by decide) HO.out HS.out))
          have HLL1 := Lib.hid (HLL.out.keptB HS.out (by decide) (by decide) s2)
          have HB1 := Lib.hid (HB.out.setCell (p := ⟨w.heap.size, K.toNat, none⟩) (Nat.le_refl _) (.bool true))
          have hcl : cyc.length + 1 ≤ 1099511627776 := by have := HI.out.room; omega
          clear hsn st s1 s2
          go_wp2_with (at_builtin; refine append_oneG _ rfl _ _ rfl rfl HO1.out hcl (by simp; omega) (size_setCell _ _ _) rfl ?_)
          intro v1 w2 hv1 hg1 hb1
          have HO2 := Lib.hid hv1
          have HS2 := Lib.hid (HS1.out.kept hg1 (own_typesR (by decide) HS1.out HO1.out))
          have HLL2 := Lib.hid (HLL1.out.keptG hg1 (fun k hk => .inr (HO1.out.lt k hk).1))
          have HB2 := Lib.hid (HB1.out.trans (hb1.mono HW.out))
          have hsz2 := Nat.le_trans hsz (show wr.heap.size ≤ w2.heap.size by have := hb1.size; simp at this; omega)
          have f3 : w2.cell? ⟨b, o + K.toNat, none⟩ = some (.int .i64 (el zs K.toNat)) := by rw [HB2.out.cell (p := ⟨b, o + K.toNat, none⟩) hb]; exact HC.out _ (by omega)
          clear hv1 hg1 hb1 f1 f2
          go_wp2
          go_roundg (gk - 1)
          case rel => exact ⟨_, _, _, rfl, ST.out, HO2.out, HS2.out, HLL2.out, HB2.out, hsz2⟩
          case measure => omega
    · obtain rfl : i = zs.length := by omega
      go_wp2
      go_ret
      exact ⟨_, rfl, HLL.out, HB.out⟩

set_option maxHeartbeats 4000000 in
theorem l21Cycles_any {v : Value} {zs : List Int} {w : World} (h : Reads w v zs) (hp : permB zs = true) :
    Calls Tryd.prog 35 #[v] w (RetLL (cycL zs) w) := by
  obtain ⟨i0, hi, hz0, hz1, hz2⟩ := info_parts infoBool
  obtain ⟨hp1, hp2, hp3⟩ := permB_bd hp
  have HP := Lib.hid hp3
  have HR := Lib.hid h
  clear hp hp3
  obtain ⟨hL, a, cap, rfl, hcap, hmax, hcell⟩ := h
  obtain ⟨b, o, rfl, hb, hc⟩ := hcell (by omega)
  have HC := Lib.hid hc
  clear hcell hc
  go_enter Tryd.func35, Tryd.ntmps35
  go_wp2_with (at_make; refine wpList_make_full _ rfl _ _ 63 rfl w.heap.size 4 i0 (.bool false) 1 Tryd.underlying63 hi hz0 hz1 .i64 .i64 (zs.length : Int) (zs.length : Int) zs.length rfl rfl rfl rfl (by rw [hz2]; omega) (by unfold maxLen; omega) (Nat.le_refl _) ?_)
  intro w1 hown hgrow
  rw [made_all _ _ rfl] at hown
  have HS := Lib.hid (show OwnV 4 w1 w.heap.size (.slice (some ⟨w.heap.size, 0, none⟩) zs.length zs.length) (bools (cycN zs 0).1) by simp only [cycN, bools, List.map_replicate]; exact ⟨by simp; omega, by simpa using hown⟩)
  have HB := Lib.hid (show Below w.heap.size w w1 from (Below.refl _ _).grown hgrow (Nat.le_refl _) (fun k hk => by cases hk))
  clear hown hgrow
  go_wp2
  go_loopw [4, 5] (fun l c wr => ∃ i : Nat, c = .int .i64 (i : Int) ∧ i ≤ zs.length ∧ OwnLL wr w.heap.size wr.heap.size l (cycN zs i).2 ∧ OwnV 4 wr w.heap.size (.slice (some ⟨w.heap.size, 0, none⟩) zs.length zs.length) (bools (cycN zs i).1) ∧ Below w.heap.size w wr) (fun _ c _ => zs.length - (intOf c).toNat)
  case atStart => exact ⟨0, rfl, by omega, ll_empty HB.out.size, HS.out.step (below_box _), HB.out.trans ((below_box _).mono HB.out.size)⟩
  case round =>
    clear HS HB
    obtain ⟨i, rfl, hi, hll, hs, hbel⟩ := hrel
    have HLL := Lib.hid hll
    have HS := Lib.hid hs
    have HB := Lib.hid hbel
    clear hll hs hbel
    by_cases hlt : i < zs.length
    · have hlen0 := (cycN_bd zs i).1
      rcases Bool.eq_false_or_eq_true ((cycN zs i).1.getD i true) with hsi | hsi
      · have f0 := HS.out.cellAt (bools_at (by omega) hsi)
        obtain ⟨e1, e2, e3⟩ := cycInv_end (cycInv_start hlt) (by simpa using hsi)
        have E1 := Lib.hid e1
        have E2 := Lib.hid (e2 rfl)
        clear hsi hlen0 e1 e2 e3
        go_wp2
        go_roundw
        case rel => exact ⟨i + 1, by go_num, by omega, by rw [E2.out]; exact HLL.out, by rw [E1.out]; exact HS.out, HB.out⟩
        case measure => simp [intOf]; omega
      · have f0 := HS.out.cellAt (bools_at (by omega) hsi)
        have HSI := Lib.hid hsi
        clear hsi hlen0
        go_wp2
        go_loopg [6, 7] zs.length (fun g c k wr2 => ∃ (seen : List Bool) (cyc : List Int) (K : Int), k = .int .i64 K ∧ CycInv zs i g seen cyc K ∧ Own wr2 wr.heap.size c cyc ∧ OwnV 4 wr2 w.heap.size (.slice (some ⟨w.heap.size, 0, none⟩) zs.length zs.length) (bools seen) ∧
          OwnLL wr2 w.heap.size wr.heap.size u4 (cycN zs i).2 ∧ Hid (cyc = [] → seen.getD K.toNat true = false) ∧ Below w.heap.size w wr2 ∧ wr.heap.size ≤ wr2.heap.size)
        case atStart => exact ⟨_, _, _, rfl, cycInv_start hlt, Own.empty (Nat.le_refl _), HS.out.step (below_box _), HLL.out.step (below_box _), Lib.hid (fun _ => by simpa using HSI.out), HB.out.trans ((below_box _).mono HB.out.size), by simp⟩
        case round =>
          have HW := Lib.hid HB.out.size
          clear HLL HS HB f0 HSI
          obtain ⟨seen, cyc, K, rfl, hinv, hc, hs, hll, HNE, hbel, hsz⟩ := hrel
          have HI := Lib.hid hinv
          have HO := Lib.hid hc
          have HS := Lib.hid hs
          have HLL := Lib.hid hll
          have HB := Lib.hid hbel
          obtain ⟨k0, k1, hlen⟩ : 0 ≤ K ∧ K < zs.length ∧ seen.length = zs.length := ⟨hinv.k0, hinv.k1, hinv.len⟩
          clear hinv hc hs hll hbel
          rcases Bool.eq_false_or_eq_true (seen.getD K.toNat true) with hsn | hsn
          · have f1 := HS.out.cellAt (bools_at (by omega) hsn)
            obtain ⟨e1, e2, e3⟩ := cycInv_end HI.out hsn
            have E1 := Lib.hid e1
            have hsn0 := hsn
            clear hsn e1
            have hnil : cyc ≠ [] := fun h => by have := HNE.out h; rw [this] at hsn0; cases hsn0
            have E3 := Lib.hid (e3 hnil)
            obtain ⟨ca, ccap, rfl, _, _, _⟩ := HO.out.shape
            have hpos : 0 < cyc.length := by cases cyc <;> simp_all
            obtain ⟨l1, l2, us, l3, l4⟩ := HLL.out
            have HV := Lib.hid l3
            have HF := Lib.hid l4
            clear e2 e3 l2 l3 l4 hnil hsn0 HNE
            go_wp2_with (at_builtin; refine append_oneV info6464 Tryd.underlying53 rfl (by omega) _ rfl _ _ rfl rfl HV.out (by have := HF.out.len; have := (cycN_bd zs i).2; omega) HB.out.size rfl rfl rfl ?_)
            intro v1 w2 hv1 hg1 hb1
            have HL1 := Lib.hid (OwnLL.snoc HV.out HF.out HO.out HW.out hsz hv1 hg1)
            have HS1 := Lib.hid (HS.out.kept hg1 (own_typesV (by decide) HS.out HV.out))
            have HB1 := Lib.hid (HB.out.trans hb1)
            clear hv1 hg1 hb1
            go_wp2
            go_roundw
            case rel => exact ⟨i + 1, by go_num, by omega, by rw [E3.out]; exact HL1.out, by rw [E1.out]; exact HS1.out, HB1.out⟩
            case measure => simp [intOf]; omega
          · have f1 := HS.out.cellAt (bools_at (by omega) hsn)
            have f2 := HS.out.frozenAt K.toNat
            obtain ⟨g0, st⟩ := cycInv_step HI.out HP.out hsn
            have ST := Lib.hid st
            obtain ⟨s1, s2⟩ := HS.out.stored K.toNat (.bool true)
            rw [bools_set] at s1
            have HS1 := Lib.hid s1
            have HO1 := Lib.hid (HO.out.kept s2 (own_typesI (by decide) HO.out HS.out))
            have HLL1 := Lib.hid (HLL.out.keptB HS.out (by decide) (by decide) s2)
            have HB1 := Lib.hid (HB.out.setCell (p := ⟨w.heap.size, K.toNat, none⟩) (Nat.le_refl _) (.bool true))
            have hcl : cyc.length + 1 ≤ 1099511627776 := by have := HI.out.room; omega
            clear hsn st s1 s2
            go_wp2_with (at_builtin; refine append_oneG _ rfl _ _ rfl rfl HO1.out hcl (by simp; omega) (size_setCell _ _ _) rfl ?_)
            intro v1 w2 hv1 hg1 hb1
            have HO2 := Lib.hid hv1
            have HS2 := Lib.hid (HS1.out.kept hg1 (own_typesR (by decide) HS1.out HO1.out))
            have HLL2 := Lib.hid (HLL1.out.keptG hg1 (fun k hk => .inr (HO1.out.lt k hk).1))
            have HB2 := Lib.hid (HB1.out.trans (hb1.mono HW.out))
            have hsz2 := Nat.le_trans hsz (show wr.heap.size ≤ w2.heap.size by have := hb1.size; simp at this; omega)
            have f3 : w2.cell? ⟨b, o + K.toNat, none⟩ = some (.int .i64 (el zs K.toNat)) := by rw [HB2.out.cell (p := ⟨b, o + K.toNat, none⟩) hb]; exact HC.out _ (by omega)
            clear hv1 hg1 hb1 f1 f2
            go_wp2
            go_roundg (gk - 1)
            case rel => exact ⟨_, _, _, rfl, ST.out, HO2.out, HS2.out, HLL2.out, Lib.hid (fun h => by simp at h), HB2.out, hsz2⟩
            case measure => omega
    · obtain rfl : i = zs.length := by omega
      go_wp2
      go_ret
      exact ⟨_, rfl, HLL.out, HB.out⟩

theorem OwnLL.shape {w : World} {lo hi : Nat} {v : Value} {zss : List (List Int)} (h : OwnLL w lo hi v zss) : ∃ a cap, v = .slice a zss.length cap ∧ zss.length ≤ cap ∧ cap ≤ maxLen := by
  obtain ⟨_, _, us, h3, h4⟩ := h
  obtain ⟨a, cap, h5, h6, h7, _⟩ := h3.shape
  rw [h4.len] at h5 h6
  exact ⟨a, cap, h5, h6, h7⟩
/-- The sign of a permutation. -/
def signL (zs : List Int) : Int := signV ((zs.length : Int) - (cycL zs).length)
end Go.Proofs.YtcecmjnbhppocaaDoor
