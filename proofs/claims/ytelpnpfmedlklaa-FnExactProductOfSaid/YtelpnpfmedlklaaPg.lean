/- Contract: the reference's ProductOf. -/
import Derived.Test.YtelpnpfmedlklaaPf
namespace Go.Proofs.Ytelpnpfmedlklaa
open Go.RowKit
set_option linter.unusedVariables false
set_option linter.unusedSimpArgs false

theorem facsB_all {p : Int} {zss : List (List Int)} {ts : List Int} {n : Nat} (hn : zss.length = n) (h : ∀ j, j < n → facB p (row zss j) (el ts j) = true) : facsB p zss ts = true := by
  unfold facsB
  rw [anyB_false (fun j hj => by rw [hn] at hj; rw [h j hj]; rfl)]
  rfl
theorem facsB_bad {p : Int} {zss : List (List Int)} {ts : List Int} {k : Nat} (hk : k < zss.length) (h : facB p (row zss k) (el ts k) = false) : facsB p zss ts = false := by
  unfold facsB
  rw [anyB_true hk (by rw [h]; rfl)]
  rfl

set_option maxHeartbeats 4000000 in
theorem sProductOf_any {p : Int} {v : Value} {zss : List (List Int)} {ts : List Int} {w : World} (h : FReads w v zss ts) :
    Calls Try.prog 5 #[.int .i64 p, v] w (RetIC (fpL p zss ts) (fpC p zss ts) w) := by
  have hn2 := h.2.1
  obtain ⟨q1, _, q3, a, cap, U, hv, q4, q5, q6, q7⟩ := h
  subst hv
  obtain ⟨n, hn⟩ : ∃ n, zss.length = n := ⟨_, rfl⟩
  rw [hn] at q1 q3 q4 q6 q7 hn2 ⊢
  have HN := Lib.hid hn
  have HC6 := Lib.hid q6
  have HU7 := Lib.hid q7
  have HTQ := Lib.hid q3
  clear q6 q7 q3 hn
  rcases Bool.eq_false_or_eq_true (smallB p) with hs | hs
  · have HS := Lib.hid hs
    obtain ⟨p1, p2⟩ := small_bd hs
    clear hs
    go_enter Try.func5, Try.ntmps5
    go_wp2_with (go_at_call 14; ((with_reducible refine (calls_bool (l01Small_any _ _) HS.out).mono ?_); rintro e w' ⟨rfl, rfl⟩))
    go_loop [6] (fun c => ∃ k : Nat, c = .int .i64 (k : Int) ∧ k ≤ n ∧ Hid (∀ j, j < k → facB p (row zss j) (el ts j) = true)) (fun c => n - (intOf c).toNat)
    case atStart => exact ⟨0, rfl, by omega, fun j hj => by omega⟩
    case round =>
      obtain ⟨k, rfl, hk, HJ⟩ := hrel
      by_cases hlt : k < n
      · obtain ⟨b, o, rfl, hb, hc⟩ := HC6.out (by omega)
        obtain ⟨f1, f2⟩ := hc k hlt
        have hru := HU7.out k hlt
        obtain ⟨a8, c8, e8, _, _⟩ := reads_nil_eq hru
        rw [e8] at f1 hru
        have HRU := Lib.hid hru
        clear hru e8 hc
        rcases Bool.eq_false_or_eq_true (modlB p (row zss k)) with hm | hm
        · have HM := Lib.hid hm
          rcases Bool.eq_false_or_eq_true (inB (el ts k) 1 8) with ht | ht
          · have HT := Lib.hid ht
            have HFK := Lib.hid (show facB p (row zss k) (el ts k) = true by unfold facB; rw [hm, ht]; rfl)
            clear hm ht
            go_wp2_with (first | (go_at_call 15; ((with_reducible refine (calls_bool (sIsModular_any HRU.out) HM.out).mono ?_); rintro e w' ⟨rfl, rfl⟩)) | (go_at_call 16; ((with_reducible refine (calls_bool (l01In_any _ _ _ _) HT.out).mono ?_); rintro e w' ⟨rfl, rfl⟩)))
            go_round
            case rel => exact ⟨k + 1, by go_num, by omega, fun j hj => by
              by_cases e : j = k
              · rw [e]; exact HFK.out
              · exact HJ.out j (by omega)⟩
            case measure => simp [intOf]; omega
          · have HT := Lib.hid ht
            have HC := Lib.hid (show fpC p zss ts = 1 by rw [fpC, facsB_bad (k := k) (by rw [HN.out]; exact hlt) (by unfold facB; rw [hm, ht]; rfl)]; simp)
            clear hm ht
            go_wp2_with (first | (go_at_call 15; ((with_reducible refine (calls_bool (sIsModular_any HRU.out) HM.out).mono ?_); rintro e w' ⟨rfl, rfl⟩)) | (go_at_call 16; ((with_reducible refine (calls_bool (l01In_any _ _ _ _) HT.out).mono ?_); rintro e w' ⟨rfl, rfl⟩)))
            go_ret2
            exact ⟨.slice none 0 0, by simp [HC.out], by simpa [fpL, HC.out] using Own.nil, Below.refl _ _⟩
        · have HM := Lib.hid hm
          have HC := Lib.hid (show fpC p zss ts = 1 by rw [fpC, facsB_bad (k := k) (by rw [HN.out]; exact hlt) (by unfold facB; rw [hm]; rfl)]; simp)
          clear hm
          go_wp2_with (first | (go_at_call 15; ((with_reducible refine (calls_bool (sIsModular_any HRU.out) HM.out).mono ?_); rintro e w' ⟨rfl, rfl⟩)))
          go_ret2
          exact ⟨.slice none 0 0, by simp [HC.out], by simpa [fpL, HC.out] using Own.nil, Below.refl _ _⟩
      · obtain rfl : k = n := by omega
        have HF := Lib.hid (facsB_all HN.out HJ.out)
        have HFB := Lib.hid (fprN_bd p1 HF.out)
        have HFA := Lib.hid (fun (i : Nat) (hi : i < zss.length) => facsB_at HF.out hi)
        have HFB := Lib.hid (HN.out ▸ HFB.out)
        have HFA := Lib.hid (HN.out ▸ HFA.out)
        by_cases h8 : 8 < k
        · have HC := Lib.hid (show fpC p zss ts = 3 by simp [fpC, HS.out, HF.out, HN.out, h8])
          have h8i : (8 : Int) < (k : Int) := by omega
          go_wp2
          go_ret2
          exact ⟨.slice none 0 0, by simp [HC.out], by simpa [fpL, HC.out] using Own.nil, Below.refl _ _⟩
        · have h8i : ¬ (8 : Int) < (k : Int) := by omega
          clear HJ
          go_wp2
          go_loopw [8, 7] (fun c d wr => ∃ i : Nat, c = .int .i64 (i : Int) ∧ i ≤ k ∧ Own wr w.heap.size d (fprN p zss ts i) ∧ Below w.heap.size w wr) (fun c _ _ => k - (intOf c).toNat)
          case atStart => exact ⟨0, rfl, by omega, own_one1 (Nat.le_refl _) 1, below_box _⟩
          case round =>
            obtain ⟨i, rfl, hi, hown, hbel⟩ := hrel
            have HO := Lib.hid hown
            have HW := Lib.hid hbel
            have hsw := hbel.size
            clear hown hbel
            by_cases hlt2 : i < k
            · obtain ⟨b, o, rfl, hb, hc⟩ := HC6.out (by omega)
              have f1 := (HW.out.cell (p := ⟨b, o + i * 2, none⟩) hb).trans (hc i hlt2).1
              have f2 := (HW.out.cell (p := ⟨b, o + i * 2 + 1, none⟩) hb).trans (hc i hlt2).2
              have hru := (HU7.out i hlt2).step HW.out
              obtain ⟨a8, c8, e8, _, _⟩ := reads_nil_eq hru
              rw [e8] at f1 hru
              obtain ⟨m1, m2, m3⟩ := HFA.out i hlt2
              obtain ⟨_, _, _, m4, m5⟩ := modl_in m1
              obtain ⟨m6, m7⟩ := HFB.out i (by omega)
              have HIG := Lib.hid m5
              have HNX := Lib.hid (show fprN p zss ts (i + 1) = timN p (fprN p zss ts i) (row zss i) (el ts i).toNat from rfl)
              have HTB := Lib.hid (fun k => timN_bd (k := k) (show 1 ≤ p by omega) m7 m4)
              have hbr : b < wr.heap.size := by omega
              generalize el ts i = t at *
              generalize fprN p zss ts i = F at *
              generalize hgr : row zss i = G at *
              have HRU := Lib.hid hru
              have HF1 := Lib.hid (fun (w' : World) (hw : Below wr.heap.size wr w') => (hw.cell (p := ⟨b, o + i * 2, none⟩) hbr).trans f1)
              have HF2 := Lib.hid (fun (w' : World) (hw : Below wr.heap.size wr w') => (hw.cell (p := ⟨b, o + i * 2 + 1, none⟩) hbr).trans f2)
              clear m1 m5 m7 hc hru e8 hgr f1 f2
              go_wp2
              go_loopw [9, 7] (fun c d wr2 => ∃ j : Nat, c = .int .i64 (j : Int) ∧ (j : Int) ≤ t ∧ Own wr2 w.heap.size d (timN p F G j) ∧ Below wr.heap.size wr wr2) (fun c _ _ => (t - intOf c).toNat)
              case atStart => exact ⟨0, rfl, by omega, HO.out, Below.refl _ _⟩
              case round =>
                obtain ⟨j, rfl, hj, hown, hbel⟩ := hrel
                have HOK := Lib.hid hown
                have HWK := Lib.hid hbel
                have hsk := hbel.size
                clear hown hbel
                have z1 := HF1.out _ HWK.out
                have z2 := HF2.out _ HWK.out
                by_cases hkt : (j : Int) < t
                · obtain ⟨n1, n2⟩ := HTB.out j
                  have HN2 := Lib.hid n2
                  have HOR := Lib.hid HOK.out.reads
                  have HRG2 := Lib.hid (HRU.out.step HWK.out)
                  clear n2
                  go_wp2_with (go_at_call 17; with_reducible refine (l08Multiply_any HOR.out HRG2.out HN2.out HIG.out ⟨p1, p2⟩ (by omega) (by omega)).mono ?_)
                  rintro _ w5 ⟨v5, rfl, o5, hb5⟩
                  go_wp2
                  go_roundw
                  case rel => exact ⟨j + 1, by go_num, by omega, o5.mono (by omega), HWK.out.trans (hb5.mono hsk)⟩
                  case measure => simp [intOf]; omega
                · have hkt2 : j = t.toNat := by omega
                  have HKT := Lib.hid hkt2
                  clear hkt2
                  go_wp2
                  go_roundw
                  case rel => exact ⟨i + 1, by go_num, by omega, by rw [HNX.out, ← HKT.out]; exact HOK.out, HW.out.trans (HWK.out.mono hsw)⟩
                  case measure => simp [intOf]; omega
            · obtain rfl : i = k := by omega
              obtain ⟨a7, c7, e7, _, _⟩ := reads_nil_eq HO.out.reads
              have HO7 := Lib.hid HO.out
              subst e7
              by_cases h9 : 9 < (fprN p zss ts i).length
              · have HC := Lib.hid (show fpC p zss ts = 3 by simp [fpC, HS.out, HF.out, HN.out, h8, h9])
                go_wp2
                go_ret2
                exact ⟨.slice none 0 0, by simp [HC.out], by simpa [fpL, HC.out] using Own.nil, HW.out⟩
              · have HC := Lib.hid (show fpC p zss ts = 0 by simp [fpC, HS.out, HF.out, HN.out, h8, h9])
                have HL := Lib.hid (show fpL p zss ts = fprN p zss ts i by simp [fpL, HC.out, HN.out])
                go_wp2
                go_ret2
                exact ⟨.slice a7 (fprN p zss ts i).length c7, by simp [HC.out], by rw [HL.out]; exact HO7.out, HW.out⟩
  · have HS := Lib.hid hs
    have HC := Lib.hid (show fpC p zss ts = 1 by simp [fpC, hs])
    clear hs
    go_enter Try.func5, Try.ntmps5
    go_wp2_with (go_at_call 14; ((with_reducible refine (calls_bool (l01Small_any _ _) HS.out).mono ?_); rintro e w' ⟨rfl, rfl⟩))
    go_ret2
    exact ⟨.slice none 0 0, by simp [HC.out], by simpa [fpL, HC.out] using Own.nil, Below.refl _ _⟩

end Go.Proofs.Ytelpnpfmedlklaa
