/- Contract: the reference's ReadPermutation. -/
import Derived.Test.YtcecmjnbhppocaaDoorSi
import Derived.Test.YtcecmjnbhppocaaDoorPa
namespace Go.Proofs.YtcecmjnbhppocaaDoor
open Go.RowKit
set_option linter.unusedVariables false
set_option linter.unusedSimpArgs false
set_option maxRecDepth 100000

/-- Cells of a block that is there. -/
structure Row1 (f : Nat → Value) (g n : Nat) (w : World) : Prop where
  lt : g < w.heap.size
  cell : ∀ i, i < n → w.cell? ⟨g, i, none⟩ = some (f i)
theorem Row1.step {f : Nat → Value} {g n : Nat} {w w' : World} (h : Row1 f g n w) (hb : Below w.heap.size w w') : Row1 f g n w' :=
  ⟨Nat.lt_of_lt_of_le h.lt hb.size, fun i hi => (hb.cell (p := ⟨g, i, none⟩) h.lt).trans (h.cell i hi)⟩
theorem Row1.set {f : Nat → Value} {g n b o : Nat} {x : Value} {w : World} (h : Row1 f g n w) (hne : g ≠ b) : Row1 f g n (w.setCell ⟨b, o, none⟩ x) :=
  ⟨by simpa [World.setCell] using h.lt, fun i hi => (World.cell?_of_block (w := w) (Below.heap_setCell _ _ _ _ hne)).trans (h.cell i hi)⟩
theorem numsP_len {ws : List (List UInt8)} (h : (numsP ws).2 = true) : (numsP ws).1.length = ws.length := by
  unfold numsP at h ⊢
  split
  · exact sgs_len ws
  · rename_i hf
    rw [if_neg hf] at h
    cases h

theorem ouN_next {n : Nat} {ts : List (List UInt8)} {i : Nat} (h : 1 ≤ i) : ouN n ts (i + 1 - 1) = stP n (ouN n ts (i - 1)) (rowS ts i) := by
  obtain ⟨j, rfl⟩ : ∃ j, i = j + 1 := ⟨i - 1, by omega⟩
  rfl
set_option maxHeartbeats 8000000 in
theorem sReadPermutation_any (l : List UInt8) (hl : l.length ≤ 1048576) (w : World) :
    Calls Tryd.prog 10 #[.string (bs l)] w fun e w' => ∃ v, e = .returned (.tuple #[v, .int .i64 (rdO l).2]) ∧ Own w' w.heap.size v (rdO l).1 ∧ Below w.heap.size w w' := by
  have HRO := Lib.hid (show rdO l = if okP l && permB (ouP l) && txtL (ouP l) == l then (ouP l, 0) else ([], 6) from rfl)
  have HOK := Lib.hid (show okP l = ((valP (rowS (splL 58 l) 0)).2 && inB (valP (rowS (splL 58 l) 0)).1 1 6 && (splL 58 l).length == 2) from rfl)
  have HOU := Lib.hid (show ouP l = ouN (valP (rowS (splL 58 l) 0)).1.toNat (splL 40 (rowS (splL 58 l) 1)) ((splL 40 (rowS (splL 58 l) 1)).length - 1) from rfl)
  have HNO := Lib.hid (show okP l = false → rdO l = ([], 6) by intro h; rw [HRO.out, h]; rfl)
  have HWL := Lib.hid (fun i (hi : i < (splL 58 l).length) => splL_rows (rowS_mem hi))
  obtain ⟨hs1, hs2⟩ := splN_len 58 l []
  rw [show splN 58 [] l = splL 58 l from rfl] at hs1 hs2
  go_enter Tryd.func10, Tryd.ntmps10
  go_wp2_with (go_at_call 22; with_reducible refine (l01Split_any (b := 58) (B := 58) rfl hl _).mono ?_)
  rintro _ w1 ⟨v1, rfl, o1, hb1⟩
  generalize splL 58 l = W at *
  obtain ⟨g, cap, rfl, hg1, hg2, hcap, hmax⟩ := o1.head (by rw [strs_len]; omega)
  have hcap2 : cap ≤ 9223372036854775807 := by unfold maxLen at hmax; omega
  have HR1 := Lib.hid (show Row1 (fun i => .string (bs (rowS W i))) g W.length w1 from ⟨hg2, fun i hi => o1.cellAt (strs_get hi)⟩)
  rw [strs_len] at hcap ⊢
  have HB1 := Lib.hid hb1
  clear o1 hb1 hmax
  have c0 := HR1.out.cell 0 (by omega)
  have HV := Lib.hid (fun w => l01Value_any (rowS W 0) (by have := HWL.out 0 (by omega); omega) w)
  obtain ⟨y0, y1⟩ := valP_bd (rowS W 0)
  obtain ⟨Y, hY⟩ : ∃ Y, (valP (rowS W 0)).1 = Y := ⟨_, rfl⟩
  obtain ⟨K, hK⟩ : ∃ K, (valP (rowS W 0)).2 = K := ⟨_, rfl⟩
  rw [hY] at y0 y1 HV HOK HOU
  rw [hK] at HV HOK
  clear hY hK
  obtain ⟨n, hn⟩ : ∃ n, W.length = n := ⟨_, rfl⟩
  rw [hn] at HOK HR1 HWL hcap hs1 hs2 ⊢
  clear hn
  cases K with
  | false =>
    have HX := Lib.hid (HNO.out (by rw [HOK.out]; rfl))
    go_wp2_with (go_at_call 23; with_reducible refine (HV.out _).mono ?_)
    rintro _ w2 ⟨rfl, hb2⟩
    go_wp2
    go_ret2
    exact ⟨.slice none 0 0, by rw [HX.out]; rfl, by rw [HX.out]; exact Own.nil, HB1.out.trans (hb2.mono HB1.out.size)⟩
  | true =>
    rcases Bool.eq_false_or_eq_true (inB Y 1 6) with hi | hi
    · have hin := inB_iff.1 hi
      have HI := Lib.hid hi
      clear hi
      by_cases h2 : n = 2
      · subst h2
        have HOKT := Lib.hid (show okP l = true by rw [HOK.out, HI.out]; rfl)
        have HRO2 := Lib.hid (show rdO l = if permB (ouP l) && txtL (ouP l) == l then (ouP l, 0) else ([], 6) by rw [HRO.out, HOKT.out]; rfl)
        obtain ⟨N, rfl⟩ : ∃ N : Nat, Y = N := ⟨Y.toNat, by omega⟩
        rw [Int.toNat_natCast] at HOU
        have h1w := HWL.out 1 (by omega)
        have HSP := Lib.hid (fun w => l01Split_any (l := rowS W 1) (b := 40) (B := 40) rfl (by omega) w)
        obtain ⟨hm1, hm2⟩ := splN_len 40 (rowS W 1) []
        rw [show splN 40 [] (rowS W 1) = splL 40 (rowS W 1) from rfl] at hm1 hm2
        have HTL := Lib.hid (fun i (hi : i < (splL 40 (rowS W 1)).length) => splL_rows (rowS_mem hi))
        go_wp2_with (first | (go_at_call 23; with_reducible refine (HV.out _).mono ?_) | (go_at_call 24; ((with_reducible refine (calls_bool (l01In_any _ _ _ _) HI.out).mono ?_); rintro e w' ⟨rfl, rfl⟩)))
        rintro _ w2 ⟨rfl, hb2⟩
        have HB2 := Lib.hid (HB1.out.trans (hb2.mono HB1.out.size))
        have HR2 := Lib.hid (HR1.out.step hb2)
        clear HB1 HR1 hb2 c0
        go_wp2_with (first | (go_at_call 24; ((with_reducible refine (calls_bool (l01In_any _ _ _ _) HI.out).mono ?_); rintro e w' ⟨rfl, rfl⟩)) | (go_at_call 25; with_reducible refine (l21One_any N _ (by omega)).mono ?_))
        rintro _ w3 ⟨v3, rfl, o3, hb3⟩
        have HB3 := Lib.hid (HB2.out.trans (hb3.mono HB2.out.size))
        have HR3 := Lib.hid (HR2.out.step hb3)
        have HO3 := Lib.hid (o3.mono HB2.out.size)
        clear HB2 HR2 hb3 o3
        have c1 := HR3.out.cell 1 (by omega)
        have hN1 : 1 ≤ N := by omega
        obtain ⟨g3, cap3, rfl, hg31, hg32, hcap3, hmax3⟩ := HO3.out.head (by rw [seq_len]; exact hN1)
        rw [seq_len] at HO3 hcap3 ⊢
        have hcap32 : cap3 ≤ 9223372036854775807 := by unfold maxLen at hmax3; omega
        have hw1l : (rowS W 1).length ≤ 1048576 := by omega
        generalize splL 40 (rowS W 1) = ts at *
        go_wp2_with (go_at_call 22; with_reducible refine (HSP.out _).mono ?_)
        rintro _ w4 ⟨v4, rfl, o4, hb4⟩
        obtain ⟨g4, cap4, rfl, hg41, hg42, hcap4, hmax4⟩ := o4.head (by rw [strs_len]; omega)
        have hcap42 : cap4 ≤ 9223372036854775807 := by unfold maxLen at hmax4; omega
        have HT4 := Lib.hid (show Row1 (fun i => .string (bs (rowS ts i))) g4 ts.length w4 from ⟨hg42, fun i hi => o4.cellAt (strs_get hi)⟩)
        rw [strs_len] at hcap4 ⊢
        have HB4 := Lib.hid (HB3.out.trans (hb4.mono HB3.out.size))
        have HO4 := Lib.hid (HO3.out.step hb4)
        have HNE := Lib.hid (show g4 ≠ g3 by omega)
        have hg43 : w.heap.size ≤ g3 := hg31
        have hg4l : w.heap.size ≤ g4 := by have := HB3.out.size; omega
        clear HB3 HO3 o4 hb4 c1 hmax3 hmax4 HR3 hg41 hg42 hg32
        obtain ⟨m, hm⟩ : ∃ m, ts.length = m := ⟨_, rfl⟩
        rw [hm] at HT4 hm1 hm2 HTL HOU hcap4 ⊢
        clear hm
        go_wp2
        go_loopw [9] (fun c wr => ∃ i : Nat, c = .int .i64 (i : Int) ∧ 1 ≤ i ∧ i ≤ m ∧ Own wr w.heap.size (.slice (some ⟨g3, 0, none⟩) N cap3) (ouN N ts (i - 1)) ∧ Row1 (fun i => .string (bs (rowS ts i))) g4 m wr ∧ Below w.heap.size w wr) (fun c _ => m - (intOf c).toNat)
        case atStart => exact ⟨1, rfl, by omega, by omega, HO4.out, HT4.out, HB4.out⟩
        case round =>
          clear HB4 HO4 HT4
          obtain ⟨i, rfl, hi1, him, hown, hrow, hbel⟩ := hrel
          have HO := Lib.hid hown
          have HT := Lib.hid hrow
          have HW := Lib.hid hbel
          have hsw := hbel.size
          clear hown hrow hbel
          by_cases hlt : i < m
          · have c2 := HT.out.cell i hlt
            have htl := HTL.out i hlt
            have HNX := Lib.hid (ouN_next (n := N) (ts := ts) hi1)
            have HOL := Lib.hid (ouN_len N ts (i - 1))
            generalize rowS ts i = t at *
            generalize ouN N ts (i - 1) = O at *
            have hT1 : t.length ≤ 1048576 := by omega
            have BST : (bs t).size = t.length := bs_size t
            by_cases h2t : t.length < 2
            · have HSH := Lib.hid (show stP N O t = O by unfold stP; rw [if_pos h2t])
              have h2ti : (t.length : Int) < 2 := by omega
              go_wp2
              go_roundw
              case rel => exact ⟨i + 1, by go_num, by omega, by omega, by rw [HNX.out, HSH.out]; exact HO.out, HT.out, HW.out⟩
              case measure => simp [intOf]; omega
            · have h2ti : ¬ (t.length : Int) < 2 := by omega
              have hDl : (t.take (t.length - 1)).length ≤ 1048576 := by rw [List.length_take]; omega
              have HSD := Lib.hid (fun w => l01Split_any (l := t.take (t.length - 1)) (b := 32) (B := 32) rfl hDl w)
              have HST := Lib.hid (show stP N O t = if (numsP (splL 32 (t.take (t.length - 1)))).2 then apN N (numsP (splL 32 (t.take (t.length - 1)))).1 O (numsP (splL 32 (t.take (t.length - 1)))).1.length else O by unfold stP; rw [if_neg h2t]; rfl)
              obtain ⟨hu1, hu2⟩ := splN_len 32 (t.take (t.length - 1)) []
              rw [show splN 32 [] (t.take (t.length - 1)) = splL 32 (t.take (t.length - 1)) from rfl] at hu1 hu2
              have HUR := Lib.hid (fun x (hx : x ∈ splL 32 (t.take (t.length - 1))) => Nat.le_trans (splL_rows hx) hDl)
              have BE0 : ∀ k, (bs t).extract 0 k = bs (t.take k) := fun k => by rw [bs_ext]; simp
              have BE1 : ((t.length : Int) - 1).toNat = t.length - 1 := by omega
              have HU1 := Lib.hid (show (splL 32 (t.take (t.length - 1))).length ≤ 1048577 by omega)
              have HU2 := Lib.hid hu2
              generalize splL 32 (t.take (t.length - 1)) = u at *
              go_wp2_with (go_at_call 22; with_reducible refine (HSD.out _).mono ?_)
              rintro _ w5 v5 rfl o5 hb5
              have HN5 := Lib.hid (l01Numbers_any o5 HU1.out HUR.out HU2.out)
              have HNL := Lib.hid (fun h => numsP_len (ws := u) h)
              have HW5 := Lib.hid (HW.out.trans (hb5.mono hsw))
              have HO5 := Lib.hid (HO.out.step hb5)
              have HT5 := Lib.hid (HT.out.step hb5)
              clear HW HO HT c2 o5 hb5
              obtain ⟨P, hP⟩ : ∃ P, (numsP u).1 = P := ⟨_, rfl⟩
              obtain ⟨G, hG⟩ : ∃ G, (numsP u).2 = G := ⟨_, rfl⟩
              rw [hP, hG] at HN5 HST HNL
              clear hP hG
              go_wp2_with (go_at_call 26; with_reducible refine (HN5.out).mono ?_)
              first | rintro _ w6 u6 rfl o6 hb6 | rintro _ w6 ⟨u6, rfl, o6, hb6⟩
              have HW6 := Lib.hid (HW5.out.trans (hb6.mono HW5.out.size))
              have HO6 := Lib.hid (HO5.out.step hb6)
              have HT6 := Lib.hid (HT5.out.step hb6)
              have hg3w5 : g3 < w5.heap.size := (HO5.out.lt g3 rfl).2
              have hg4w5 := HT5.out.lt
              have hs56 := HW5.out.size
              clear HW5 HO5 HT5 HN5 hb6
              cases G with
              | false =>
                rw [if_neg (by simp)] at HST
                go_wp2
                go_loopw [13] (fun c wr2 => c = .int .i64 0 ∧ w6 = wr2) (fun _ _ => 0)
                case atStart => exact ⟨rfl, rfl⟩
                case round =>
                  obtain ⟨rfl, rfl⟩ := hrel
                  go_wp2
                  go_roundw
                  case rel => exact ⟨i + 1, by go_num, by omega, by omega, by rw [HNX.out, HST.out]; exact HO6.out, HT6.out, HW6.out⟩
                  case measure => simp [intOf]; omega
              | true =>
                rw [if_pos rfl] at HST
                have hPl := HNL.out rfl
                obtain ⟨g6, cap6, rfl, hg61, hg62, hcap6, hmax6⟩ := o6.head (by rw [hPl]; exact HU2.out)
                have hcap62 : cap6 ≤ 9223372036854775807 := by unfold maxLen at hmax6; omega
                have HP6 := Lib.hid (show Row1 (fun k => .int .i64 (el P k)) g6 P.length w6 from ⟨hg62, fun k hk => o6.cellAt hk⟩)
                have hp1 : 1 ≤ P.length := by rw [hPl]; exact HU2.out
                have hp2 : P.length ≤ 1048577 := by rw [hPl]; exact HU1.out
                have HNE6 := Lib.hid (show g6 ≠ g3 by omega)
                obtain ⟨p, hp⟩ : ∃ p, P.length = p := ⟨_, rfl⟩
                have HPL := Lib.hid hp
                rw [hp] at HP6 hp1 hp2 HST hcap6 ⊢
                clear hp hPl o6 hmax6
                go_wp2
                go_loopw [13] (fun c wr2 => ∃ k : Nat, c = .int .i64 (k : Int) ∧ k ≤ p ∧ Own wr2 w.heap.size (.slice (some ⟨g3, 0, none⟩) N cap3) (apN N P O k) ∧ Row1 (fun i => .string (bs (rowS ts i))) g4 m wr2 ∧ Row1 (fun k => .int .i64 (el P k)) g6 p wr2 ∧ Below w.heap.size w wr2) (fun c _ => p - (intOf c).toNat)
                case atStart => exact ⟨0, rfl, by omega, HO6.out, HT6.out, HP6.out, HW6.out⟩
                case round =>
                  clear HO6 HT6 HP6 HW6 hg61 hg62 hg4w5 hg3w5 hs56
                  obtain ⟨k, rfl, hk, hown, hrow, hrow6, hbel⟩ := hrel
                  have HO := Lib.hid hown
                  have HT := Lib.hid hrow
                  have HP := Lib.hid hrow6
                  have HW := Lib.hid hbel
                  have hsw := hbel.size
                  clear hown hrow hrow6 hbel
                  by_cases hkp : k < p
                  · have d1 := HP.out.cell k hkp
                    have hq := Nat.mod_lt (k + 1) (show 0 < p by omega)
                    have d2 := HP.out.cell ((k + 1) % p) hq
                    have HAL := Lib.hid (apN_len N P O k)
                    have HAX := Lib.hid (show apN N P O (k + 1) = if 0 ≤ el P k ∧ el P k ≤ N - 1 then (apN N P O k).set (el P k).toNat (el P ((k + 1) % p)) else apN N P O k by rw [apN, HPL.out])
                    have hrem : ((k : Int) + 1).tmod (p : Int) = (((k + 1) % p : Nat) : Int) := by rw [Int.tmod_eq_emod_of_nonneg (by omega)]; exact_mod_cast rfl
                    have hp0 : (p : Int) ≠ 0 := by omega
                    obtain ⟨q, hqe⟩ : ∃ q, (k + 1) % p = q := ⟨_, rfl⟩
                    rw [hqe] at hq d2 HAX hrem
                    clear hqe
                    generalize el P k = X at *
                    generalize el P q = Z at *
                    rcases Bool.eq_false_or_eq_true (inB X 0 (N - 1)) with hx | hx
                    · have hxi := inB_iff.1 hx
                      have HI2 := Lib.hid hx
                      rw [if_pos hxi] at HAX
                      obtain ⟨x, rfl⟩ : ∃ x : Nat, X = x := ⟨X.toNat, by omega⟩
                      rw [Int.toNat_natCast] at HAX
                      have hxN : x < N := by omega
                      have d3 := HO.out.cellAt (i := x) (by rw [HAL.out, HOL.out]; exact hxN)
                      have d4 := HO.out.frozenAt x
                      clear hx hxi
                      go_wp2_with (first | (go_at_call 24; ((with_reducible refine (calls_bool (l01In_any _ _ _ _) HI2.out).mono ?_); rintro e w' ⟨rfl, rfl⟩)))
                      go_region
                      obtain ⟨s1, s2⟩ := HO.out.stored x Z
                      go_wp2
                      go_roundw
                      case rel => exact ⟨k + 1, by go_num, by omega, by rw [HAX.out]; exact s1.step (Below.refl _ _).drew, (HT.out.set HNE.out).step (Below.refl _ _).drew, (HP.out.set HNE6.out).step (Below.refl _ _).drew, (HW.out.setCell hg43 _).drew⟩
                      case measure => simp [intOf]; omega
                    · have HI2 := Lib.hid hx
                      rw [if_neg (fun h => by rw [inB_iff.2 h] at hx; cases hx)] at HAX
                      clear hx
                      go_wp2_with (first | (go_at_call 24; ((with_reducible refine (calls_bool (l01In_any _ _ _ _) HI2.out).mono ?_); rintro e w' ⟨rfl, rfl⟩)))
                      go_roundw
                      case rel => exact ⟨k + 1, by go_num, by omega, by rw [HAX.out]; exact HO.out, HT.out, HP.out, HW.out⟩
                      case measure => simp [intOf]; omega
                  · obtain rfl : k = p := by omega
                    go_wp2
                    go_roundw
                    case rel => exact ⟨i + 1, by go_num, by omega, by omega, by rw [HNX.out, HST.out]; exact HO.out, HT.out, HW.out⟩
                    case measure => simp [intOf]; omega
          · obtain rfl : i = m := by omega
            rw [← HOU.out] at HO
            generalize ouP l = Q at *
            rcases Bool.eq_false_or_eq_true (permB Q) with hp | hp
            · have HPQ := Lib.hid hp
              clear hp
              by_cases hc : txtL Q = l
              · have hcmp : ((bs (txtL Q)).toList == (bs l).toList) = true := by rw [bs_list, bs_list, hc]; simp
                have HX := Lib.hid (show rdO l = (Q, 0) by rw [HRO2.out, HPQ.out, hc]; simp)
                clear hc
                go_wp2_with (go_at_call 18; with_reducible refine (sIsPermutation_any HO.out.reads).mono ?_)
                rintro _ w7 ⟨rfl, hb7⟩
                rw [HPQ.out]
                have HO7 := Lib.hid (HO.out.step hb7)
                have HW7 := Lib.hid (HW.out.trans (hb7.mono hsw))
                clear hb7 HO HW
                go_wp2_with (go_at_call 19; with_reducible refine (l21Text_any HO7.out.reads HPQ.out).mono ?_)
                rintro _ w8 ⟨rfl, hb8⟩
                have HO8 := Lib.hid (HO7.out.step hb8)
                have HW8 := Lib.hid (HW7.out.trans (hb8.mono HW7.out.size))
                clear hb8 HO7 HW7
                go_wp2
                go_ret2
                exact ⟨_, by rw [HX.out]; rfl, by rw [HX.out]; exact HO8.out, HW8.out⟩
              · have hcmp : ((bs (txtL Q)).toList == (bs l).toList) = false := by rw [bs_list, bs_list]; simpa using hc
                have HX := Lib.hid (show rdO l = ([], 6) by rw [HRO2.out, HPQ.out, if_neg]; simpa using hc)
                clear hc
                go_wp2_with (go_at_call 18; with_reducible refine (sIsPermutation_any HO.out.reads).mono ?_)
                rintro _ w7 ⟨rfl, hb7⟩
                rw [HPQ.out]
                have HO7 := Lib.hid (HO.out.step hb7)
                have HW7 := Lib.hid (HW.out.trans (hb7.mono hsw))
                clear hb7 HO HW
                go_wp2_with (go_at_call 19; with_reducible refine (l21Text_any HO7.out.reads HPQ.out).mono ?_)
                rintro _ w8 ⟨rfl, hb8⟩
                have HW8 := Lib.hid (HW7.out.trans (hb8.mono HW7.out.size))
                clear hb8 HO7 HW7
                go_wp2
                go_ret2
                exact ⟨.slice none 0 0, by rw [HX.out]; rfl, by rw [HX.out]; exact Own.nil, HW8.out⟩
            · have HPQ := Lib.hid hp
              have HX := Lib.hid (show rdO l = ([], 6) by rw [HRO2.out, hp]; rfl)
              clear hp
              go_wp2_with (go_at_call 18; with_reducible refine (sIsPermutation_any HO.out.reads).mono ?_)
              rintro _ w7 ⟨rfl, hb7⟩
              rw [HPQ.out]
              have HW7 := Lib.hid (HW.out.trans (hb7.mono hsw))
              clear hb7 HO HW
              go_wp2
              go_ret2
              exact ⟨.slice none 0 0, by rw [HX.out]; rfl, by rw [HX.out]; exact Own.nil, HW7.out⟩
      · have HX := Lib.hid (HNO.out (by rw [HOK.out, HI.out]; simpa using h2))
        have h2b : ((n : Int) == 2) = false := by simp; omega
        go_wp2_with (first | (go_at_call 23; with_reducible refine (HV.out _).mono ?_) | (go_at_call 24; ((with_reducible refine (calls_bool (l01In_any _ _ _ _) HI.out).mono ?_); rintro e w' ⟨rfl, rfl⟩)))
        rintro _ w2 ⟨rfl, hb2⟩
        go_wp2_with (first | (go_at_call 24; ((with_reducible refine (calls_bool (l01In_any _ _ _ _) HI.out).mono ?_); rintro e w' ⟨rfl, rfl⟩)))
        go_ret2
        exact ⟨.slice none 0 0, by rw [HX.out]; rfl, by rw [HX.out]; exact Own.nil, HB1.out.trans (hb2.mono HB1.out.size)⟩
    · have HI := Lib.hid hi
      have HX := Lib.hid (HNO.out (by rw [HOK.out, hi]; rfl))
      clear hi
      go_wp2_with (first | (go_at_call 23; with_reducible refine (HV.out _).mono ?_) | (go_at_call 24; ((with_reducible refine (calls_bool (l01In_any _ _ _ _) HI.out).mono ?_); rintro e w' ⟨rfl, rfl⟩)))
      rintro _ w2 ⟨rfl, hb2⟩
      go_wp2_with (first | (go_at_call 24; ((with_reducible refine (calls_bool (l01In_any _ _ _ _) HI.out).mono ?_); rintro e w' ⟨rfl, rfl⟩)))
      go_ret2
      exact ⟨.slice none 0 0, by rw [HX.out]; rfl, by rw [HX.out]; exact Own.nil, HB1.out.trans (hb2.mono HB1.out.size)⟩

end Go.Proofs.YtcecmjnbhppocaaDoor
