/- 'laws.FnModularRoots' returns true for all arguments: roots are where linear factors divide, and powers of x follow one another. Conditions: none. -/
import Derived.Test.YtlndfjplhfgicaaRows
import Derived.WalkKit
import Derived.ProofKit
import Derived.OpenShut
import Derived.ShutString
import Derived.ChangeOld
import Derived.Below
import Derived.Lib.SmallJoins
import Derived.Test.YtlndfjplhfgicaaOv
import Derived.Test.YtlndfjplhfgicaaOu
import Derived.Test.YtlndfjplhfgicaaNl
import Derived.Test.YtlndfjplhfgicaaNi
namespace Go.Proofs.Ytlndfjplhfgicaa.modularRoots
open Go.ChangeShapes Go.WideShapes Go.ChangeAt Go.RowKit
open Go.ChangeMaps (open_string shut_string)
set_option linter.unusedVariables false
set_option linter.unusedSimpArgs false


theorem rts_ok {p : Int} {f : List Int} (h : rootsModular.code p f = 0) : modlB p f = true ∧ rootsModular.out p f = rtL p f p.toNat := by
  unfold rootsModular.code at h
  unfold rootsModular.out
  by_cases h1 : modlB p f = true
  · rw [if_pos h1] at h ⊢
    by_cases h2 : f.length = 0
    · rw [if_pos h2] at h; cases h
    · rw [if_neg h2]; exact ⟨h1, rfl⟩
  · rw [if_neg h1] at h; cases h
theorem lin_nil {p r : Int} {f : List Int} (hf : modlB p f = true) (h : 0 ≤ r ∧ r < p) (hr : valM p f r = 0) : dmR p f [-r % p, 1] = [] ∧ twoC p f [-r % p, 1] = 0 := by
  rw [show -r % p = (p - r) % p by simp]
  have hs := (modl_in hf).2.2.1
  have hc : twoC p f [(p - r) % p, 1] = 0 := by unfold twoC; rw [if_pos hf, if_pos (lin_mod hs h), if_neg (by simp)]
  refine ⟨?_, hc⟩
  unfold dmR
  rw [if_pos hc, root_rem hf h hr]
theorem px_ok {q e : Int} {g : List Int} (h : pxC q e g = 0) : modlB q g = true ∧ 0 ≤ e ∧ 0 < g.length ∧ pxL q e g = powL q [0, 1] e g := by
  have h0 := h
  unfold pxC at h
  by_cases h1 : modlB q g = true
  · rw [if_pos h1] at h
    by_cases h2 : inB e 0 1000000000000 = true
    · rw [if_pos h2] at h
      by_cases h3 : g.length = 0
      · rw [if_pos h3] at h; cases h
      · refine ⟨h1, (inB_iff.1 h2).1, by omega, ?_⟩
        unfold pxL
        rw [if_pos h0]
    · rw [if_neg h2] at h; cases h
  · rw [if_neg h1] at h; cases h
theorem px_next {q e : Int} {g : List Int} (h : pxC q e g = 0) (he : e < 1000000000000) : pxC q (e + 1) g = 0 ∧ (pxL q e g = [] → pxL q (e + 1) g = []) ∧
    (pxL q e g ≠ [] → g.length < 9 → twoC q (0 :: pxL q e g) g = 0 ∧ dmR q (0 :: pxL q e g) g = pxL q (e + 1) g) := by
  obtain ⟨h1, h2, h3, h4⟩ := px_ok h
  have hc : pxC q (e + 1) g = 0 := by unfold pxC; rw [if_pos h1, if_pos (inB_iff.2 (by omega)), if_neg (by omega)]
  obtain ⟨_, _, _, h5⟩ := px_ok hc
  obtain ⟨n1, n2, n3⟩ := pow_next h1 h3 h2
  rw [h4, h5]
  refine ⟨hc, n2, fun hx hl => ?_⟩
  have ht : twoC q (0 :: powL q [0, 1] e g) g = 0 := by unfold twoC; rw [if_pos (n3 hx hl), if_pos h1, if_neg (by omega)]
  refine ⟨ht, ?_⟩
  unfold dmR
  rw [if_pos ht]
  exact n1
theorem px_len {q e : Int} {g : List Int} (h : pxC q e g = 0) : (pxL q e g).length < g.length := by
  obtain ⟨h1, h2, h3, h4⟩ := px_ok h
  rw [h4]
  exact (powL_facts h1 h3).1.2.2
theorem own_single {w : World} {lo : Nat} (h : lo ≤ w.heap.size) (x : Int) : Own (w.alloc (.cells #[.int .i64 x] 2)) lo (.slice (some ⟨w.heap.size, 0, none⟩) 1 1) [x] := by
  refine ⟨by simp, by simp, .inr ⟨w.heap.size, 1, #[.int .i64 x], rfl, h, ?_, by simp, by simp [maxLen], by simp, by simp⟩⟩
  show (w.heap.push _)[w.heap.size]? = _
  simp

set_option maxRecDepth 100000 in
set_option maxHeartbeats 16000000 in
theorem walk (a0 : Option Addr) (len0 cap0 : Nat) (z0 : List Int) (w : World) (ha0 : IsRow .u8 w a0 len0 cap0 z0) :
    Calls Try.prog 11 #[.slice a0 len0 cap0] w fun e w' => e = .returned (.bool true) ∧ Below w.heap.size w w' := by
  by_cases hbig : len0 ≤ 4096
  case neg =>
    go_enter Try.func11, Try.ntmps11
    go_wp2_with (go_at_call 18; with_reducible refine (big_yes (by omega) ha0.max).mono ?_)
    rintro _ _ ⟨rfl, rfl⟩
    go_wp2
    go_ret
    exact ⟨rfl, Below.refl _ _⟩
  obtain ⟨Z, hZ, hBs⟩ := ha0.bytes (by omega)
  subst hZ
  have HBs := Lib.hid hBs
  clear hBs ha0
  have HB := Lib.hid (Below.refl w.heap.size w)
  go_enter Try.func11, Try.ntmps11
  go_wp2_with (go_at_call 18; with_reducible refine (big_no hbig).mono ?_)
  rintro _ _ ⟨rfl, rfl⟩

  have HBz := Lib.hid (HBs.out.next HB.out HB.out.size)
  go_wp2_with (go_at_call 58; with_reducible refine (DrawRootsModular_any HBz.out).mono ?_)
  rintro _ wz1 ⟨p, f, vf, rfl, hp, oF, hbN⟩
  replace HB := Lib.hid (HB.out.trans (hbN.mono HB.out.size))
  have HF := Lib.hid oF.reads
  clear HBz hbN oF
  go_wp2_with (go_at_call 59; with_reducible refine (rootsModular.impl_any HF.out).mono ?_)
  rintro _ wz2 ⟨v2, rfl, oN, hbN⟩
  obtain ⟨sa2, sc2, rfl, _, _⟩ := reads_nil_eq oN.reads
  replace HF := Lib.hid (HF.out.step hbN)
  replace HB := Lib.hid (HB.out.trans (hbN.mono HB.out.size))
  have HR := Lib.hid oN.reads
  clear oN hbN
  go_wp2_with (go_at_call 60; with_reducible refine (rootsModular.spec_any HF.out).mono ?_)
  rintro _ wz3 ⟨v3, rfl, oN, hbN⟩
  obtain ⟨sa3, sc3, rfl, _, _⟩ := reads_nil_eq oN.reads
  replace HF := Lib.hid (HF.out.step hbN)
  replace HR := Lib.hid (HR.out.step hbN)
  replace HB := Lib.hid (HB.out.trans (hbN.mono HB.out.size))
  have HM := Lib.hid oN.reads
  clear oN hbN
  have HBz := Lib.hid (HBs.out.next HB.out HB.out.size)
  go_wp2_with (go_at_call 61; with_reducible refine (DrawPowerOfX_any HBz.out).mono ?_)
  rintro _ wz4 ⟨q, e, g, vg, rfl, hq, ⟨e0, e1⟩, oG, hbN⟩
  replace HF := Lib.hid (HF.out.step hbN)
  replace HR := Lib.hid (HR.out.step hbN)
  replace HM := Lib.hid (HM.out.step hbN)
  replace HB := Lib.hid (HB.out.trans (hbN.mono HB.out.size))
  have HG := Lib.hid oG.reads
  clear HBz hbN oG
  obtain ⟨ga, gcap, rfl, _, _⟩ := reads_nil_eq HG.out
  go_wp2_with (go_at_call 62; with_reducible refine (PowerOfX_any HG.out).mono ?_)
  rintro _ wz5 ⟨v5, rfl, oN, hbN⟩
  obtain ⟨sa5, sc5, rfl, _, _⟩ := reads_nil_eq oN.reads
  replace HF := Lib.hid (HF.out.step hbN)
  replace HR := Lib.hid (HR.out.step hbN)
  replace HM := Lib.hid (HM.out.step hbN)
  replace HG := Lib.hid (HG.out.step hbN)
  replace HB := Lib.hid (HB.out.trans (hbN.mono HB.out.size))
  have HX := Lib.hid oN.reads
  clear oN hbN
  go_wp2_with (go_at_call 63; with_reducible refine (sPowerOfX_any HG.out).mono ?_)
  rintro _ wz6 ⟨v6, rfl, oN, hbN⟩
  obtain ⟨sa6, sc6, rfl, _, _⟩ := reads_nil_eq oN.reads
  replace HF := Lib.hid (HF.out.step hbN)
  replace HR := Lib.hid (HR.out.step hbN)
  replace HM := Lib.hid (HM.out.step hbN)
  replace HG := Lib.hid (HG.out.step hbN)
  replace HX := Lib.hid (HX.out.step hbN)
  replace HB := Lib.hid (HB.out.trans (hbN.mono HB.out.size))
  have HY := Lib.hid oN.reads
  clear oN hbN
  obtain ⟨C1, hC1⟩ : ∃ C, rootsModular.code p f = C := ⟨_, rfl⟩
  obtain ⟨C2, hC2⟩ : ∃ C, pxC q e g = C := ⟨_, rfl⟩
  rw [hC1, hC2]
  have f1 : (C1 != C1) = false := by simp
  have f2 : (C2 != C2) = false := by simp
  have H1 := Lib.hid hC1
  have H2 := Lib.hid hC2
  clear hC1 hC2
  go_wp2_with (go_at_call 27; with_reducible refine (likeInts_same HR.out HM.out).mono ?_)
  rintro _ wz7 ⟨rfl, hbN⟩
  replace HF := Lib.hid (HF.out.step hbN)
  replace HR := Lib.hid (HR.out.step hbN)
  replace HM := Lib.hid (HM.out.step hbN)
  replace HG := Lib.hid (HG.out.step hbN)
  replace HX := Lib.hid (HX.out.step hbN)
  replace HY := Lib.hid (HY.out.step hbN)
  replace HB := Lib.hid (HB.out.trans (hbN.mono HB.out.size))
  clear hbN
  go_wp2_with (go_at_call 27; with_reducible refine (likeInts_same HX.out HY.out).mono ?_)
  rintro _ wz8 ⟨rfl, hbN⟩
  replace HF := Lib.hid (HF.out.step hbN)
  replace HR := Lib.hid (HR.out.step hbN)
  replace HM := Lib.hid (HM.out.step hbN)
  replace HG := Lib.hid (HG.out.step hbN)
  replace HX := Lib.hid (HX.out.step hbN)
  replace HY := Lib.hid (HY.out.step hbN)
  replace HB := Lib.hid (HB.out.trans (hbN.mono HB.out.size))
  clear hbN
  clear HM HY
  obtain ⟨rs, hrs⟩ : ∃ rs, rootsModular.out p f = rs := ⟨_, rfl⟩
  have HRS := Lib.hid hrs
  rw [hrs] at HR ⊢
  obtain ⟨n, hn⟩ : ∃ n, rs.length = n := ⟨_, rfl⟩
  have HN := Lib.hid hn
  have hnb : n ≤ 1099511627776 := by have := HR.out.1; omega
  rw [hn] at HR ⊢
  clear hrs hn
  obtain ⟨gl, hgl⟩ : ∃ gl, g.length = gl := ⟨_, rfl⟩
  have HGL := Lib.hid hgl
  have hgb : gl ≤ 1099511627776 := by have := HG.out.1; omega
  rw [hgl] at HG ⊢
  clear hgl
  obtain ⟨xs, hxs⟩ : ∃ xs, pxL q e g = xs := ⟨_, rfl⟩
  have HXS := Lib.hid hxs
  rw [hxs] at HX ⊢
  clear hxs
  have hxb : xs.length ≤ 1099511627776 := HX.out.1
  by_cases h2 : C2 = 0
  · have PL := px_len (H2.out.trans h2)
    rw [HXS.out, HGL.out] at PL
    by_cases h9 : gl < 9
    · have hg9 : (gl : Int) < 9 := by omega
      by_cases he : e < 1000000000000
      · have PN := Lib.hid (px_next (H2.out.trans h2) he)
        rw [HXS.out] at PN
        subst h2
        have K5 := Lib.hid (PowerOfX_any (p := q) (e := e + 1) HG.out)
        rw [PN.out.1] at K5
        go_wp2_with (go_at_call 62; with_reducible refine (K5.out).mono ?_)
        rintro _ wz9 ⟨v9, rfl, oN, hbN⟩
        obtain ⟨sa9, sc9, rfl, _, _⟩ := reads_nil_eq oN.reads
        replace HF := Lib.hid (HF.out.step hbN)
        replace HR := Lib.hid (HR.out.step hbN)
        replace HG := Lib.hid (HG.out.step hbN)
        replace HX := Lib.hid (HX.out.step hbN)
        replace HB := Lib.hid (HB.out.trans (hbN.mono HB.out.size))
        have HT := Lib.hid oN.reads
        clear oN hbN
        have hx1 : [(0 : Int)].length + xs.length ≤ 1099511627776 := by simp; omega
        go_wp2_with (at_builtin; refine append_reads _ rfl _ _ rfl rfl (own_single (Nat.le_refl _) 0) rfl (HX.out.step (below_box _)) hx1 (by simp) ?_)
        intro vA wA ownA _ belA
        have hbA := Lib.hid ((below_box (.cells #[.int .i64 0] 2)).trans belA)
        have HA := Lib.hid ownA.reads
        clear belA
        replace HF := Lib.hid (HF.out.step hbA.out)
        replace HR := Lib.hid (HR.out.step hbA.out)
        replace HG := Lib.hid (HG.out.step hbA.out)
        replace HX := Lib.hid (HX.out.step hbA.out)
        replace HT := Lib.hid (HT.out.step hbA.out)
        replace HB := Lib.hid (HB.out.trans (hbA.out.mono HB.out.size))
        clear ownA hbA
        obtain ⟨aa, ac, rfl, _, _⟩ := reads_nil_eq HA.out
        have hal : ((0 : Int) :: xs).length = xs.length + 1 := rfl
        rw [hal] at HA ⊢
        clear hal
        by_cases hx0 : xs.length = 0
        · have hxn : xs = [] := List.length_eq_zero_iff.1 hx0
          have hnn := PN.out.2.1 hxn
          rw [hnn] at HT ⊢
          subst hxn
          have HA0 := Lib.hid (show Reads wA (.slice aa 1 ac) [0] from HA.out)
          have K6 := Lib.hid (DivideModular_any (p := q) HA0.out HG.out)
          obtain ⟨D4, hD4⟩ : ∃ D, twoC q [0] g = D := ⟨_, rfl⟩
          rw [hD4] at K6
          go_wp2_with (go_at_call 47; with_reducible refine (K6.out).mono ?_)
          rintro _ wz10 ⟨va10, vb10, wy10, rfl, _, _, oN, hbN, oM, hbM⟩
          obtain ⟨sa10, sc10, rfl, _, _⟩ := reads_nil_eq oN.reads
          obtain ⟨sd10, se10, rfl, _, _⟩ := reads_nil_eq oM.reads
          replace HF := Lib.hid (HF.out.step hbN)
          replace HR := Lib.hid (HR.out.step hbN)
          replace HG := Lib.hid (HG.out.step hbN)
          replace HX := Lib.hid (HX.out.step hbN)
          replace HT := Lib.hid (HT.out.step hbN)
          replace HA := Lib.hid (HA.out.step hbN)
          replace HB := Lib.hid (HB.out.trans (hbN.mono HB.out.size))
          replace HF := Lib.hid (HF.out.step hbM)
          replace HR := Lib.hid (HR.out.step hbM)
          replace HG := Lib.hid (HG.out.step hbM)
          replace HX := Lib.hid (HX.out.step hbM)
          replace HT := Lib.hid (HT.out.step hbM)
          replace HA := Lib.hid (HA.out.step hbM)
          replace HB := Lib.hid (HB.out.trans (hbM.mono HB.out.size))
          have HQ := Lib.hid (oN.reads.step hbM)
          have HW := Lib.hid oM.reads
          clear oN hbN oM hbM
          clear HQ HW
          have HT0 := Lib.hid (show Reads wz10 (.slice sa9 0 sc9) [] from HT.out)
          have K7 := Lib.hid (likeInts_same (w := wz10.alloc (.cells #[] 2)) (HT0.out.step (below_box _)) (Own.empty (w := wz10) (lo := wz10.heap.size) (Nat.le_refl _)).reads)
          go_wp2_with (go_at_call 27; (with_reducible refine K7.out.mono ?_))
          rintro _ wE ⟨rfl, hbE⟩
          have hbN := (below_box (w := wz10) _).trans (hbE.mono (by simp))
          replace HF := Lib.hid (HF.out.step hbN)
          replace HR := Lib.hid (HR.out.step hbN)
          replace HG := Lib.hid (HG.out.step hbN)
          replace HX := Lib.hid (HX.out.step hbN)
          replace HT := Lib.hid (HT.out.step hbN)
          replace HA := Lib.hid (HA.out.step hbN)
          replace HB := Lib.hid (HB.out.trans (hbN.mono HB.out.size))
          go_wp2
          go_loopw [21] (fun c wr => ∃ k : Nat, c = .int .i64 (k : Int) ∧ k ≤ n ∧ Reads wr (.slice sa2 n sc2) rs ∧ Reads wr vf f ∧ Below w.heap.size w wr) (fun c _ => n - (intOf c).toNat)
          case atStart => exact ⟨0, rfl, by omega, HR.out, HF.out, HB.out⟩
          case round =>
            clear HR HF HB
            obtain ⟨k, rfl, hk, hr, hf, hb⟩ := hrel
            have HR := Lib.hid hr
            have HF := Lib.hid hf
            have HB := Lib.hid hb
            clear hr hf hb
            by_cases h1 : C1 = 0
            · have A1 := Lib.hid (rts_ok (H1.out.trans h1))
              subst h1
              by_cases hlt : k < n
              · obtain ⟨b, o, hbo, hc⟩ := HR.out.at (k := k) (by rw [HN.out]; omega)
                subst hbo
                have hmm := rtL_mem p f p.toNat (el rs k) (by rw [← A1.out.2, HRS.out]; exact el_mem (by rw [HN.out]; exact hlt))
                obtain ⟨x, hx⟩ : ∃ x, el rs k = x := ⟨_, rfl⟩
                rw [hx] at hmm hc
                have hx0 : 0 ≤ x := hmm.1
                have hxp : x < p := by have := hmm.2.1; omega
                have D := Lib.hid (lin_nil A1.out.1 ⟨hx0, hxp⟩ hmm.2.2)
                have hpx : 0 ≤ p - x := by omega
                have hp0 : ¬ p = 0 := by omega
                have K3 := Lib.hid (DivideModular_any (p := p) (w := wr.alloc (.cells #[.int .i64 (-x % p), .int .i64 1] 2)) (HF.out.step (below_box _)) (reads_two wr (-x % p) 1))
                rw [D.out.1, D.out.2] at K3
                clear hmm hx
                go_wp2_with (go_at_call 47; (with_reducible refine K3.out.mono ?_))
                rintro _ w4 ⟨va, vb, wy, rfl, _, _, oN, hbN, oM, hbM⟩
                obtain ⟨sd, se, rfl, _, _⟩ := reads_nil_eq oM.reads
                have HB4 := Lib.hid (show Below wr.heap.size wr w4 from ((below_box _).trans (hbN.mono (by simp))).trans (hbM.mono (by have := hbN.size; simp at this; omega)))
                clear oN hbN oM hbM
                go_wp2
                go_roundw
                case rel => exact ⟨k + 1, by go_num, by omega, HR.out.step HB4.out, HF.out.step HB4.out, HB.out.trans (HB4.out.mono HB.out.size)⟩
                case measure => simp [intOf]; omega
              · obtain rfl : k = n := by omega
                go_wp2
                go_ret
                exact ⟨rfl, HB.out⟩
            · have h1b : (C1 == 0) = false := by simpa using h1
              go_wp2
              go_ret
              exact ⟨rfl, HB.out⟩
        · have hxn : xs ≠ [] := fun hh => hx0 (by rw [hh]; rfl)
          have hxb2 : ((xs.length : Int) == 0) = false := by simp; exact hxn
          have PD := PN.out.2.2 hxn (by rw [HGL.out]; exact h9)
          have K6 := Lib.hid (DivideModular_any (p := q) HA.out HG.out)
          rw [PD.1, PD.2] at K6
          clear PD
          go_wp2_with (go_at_call 47; with_reducible refine (K6.out).mono ?_)
          rintro _ wz11 ⟨va11, vb11, wy11, rfl, _, _, oN, hbN, oM, hbM⟩
          obtain ⟨sa11, sc11, rfl, _, _⟩ := reads_nil_eq oN.reads
          obtain ⟨sd11, se11, rfl, _, _⟩ := reads_nil_eq oM.reads
          replace HF := Lib.hid (HF.out.step hbN)
          replace HR := Lib.hid (HR.out.step hbN)
          replace HG := Lib.hid (HG.out.step hbN)
          replace HX := Lib.hid (HX.out.step hbN)
          replace HT := Lib.hid (HT.out.step hbN)
          replace HA := Lib.hid (HA.out.step hbN)
          replace HB := Lib.hid (HB.out.trans (hbN.mono HB.out.size))
          replace HF := Lib.hid (HF.out.step hbM)
          replace HR := Lib.hid (HR.out.step hbM)
          replace HG := Lib.hid (HG.out.step hbM)
          replace HX := Lib.hid (HX.out.step hbM)
          replace HT := Lib.hid (HT.out.step hbM)
          replace HA := Lib.hid (HA.out.step hbM)
          replace HB := Lib.hid (HB.out.trans (hbM.mono HB.out.size))
          have HQ := Lib.hid (oN.reads.step hbM)
          have HW := Lib.hid oM.reads
          clear oN hbN oM hbM
          go_wp2_with (go_at_call 27; with_reducible refine (likeInts_same HT.out HW.out).mono ?_)
          rintro _ wz12 ⟨rfl, hbN⟩
          replace HF := Lib.hid (HF.out.step hbN)
          replace HR := Lib.hid (HR.out.step hbN)
          replace HG := Lib.hid (HG.out.step hbN)
          replace HX := Lib.hid (HX.out.step hbN)
          replace HT := Lib.hid (HT.out.step hbN)
          replace HA := Lib.hid (HA.out.step hbN)
          replace HQ := Lib.hid (HQ.out.step hbN)
          replace HW := Lib.hid (HW.out.step hbN)
          replace HB := Lib.hid (HB.out.trans (hbN.mono HB.out.size))
          clear hbN
          go_wp2
          go_loopw [21] (fun c wr => ∃ k : Nat, c = .int .i64 (k : Int) ∧ k ≤ n ∧ Reads wr (.slice sa2 n sc2) rs ∧ Reads wr vf f ∧ Below w.heap.size w wr) (fun c _ => n - (intOf c).toNat)
          case atStart => exact ⟨0, rfl, by omega, HR.out, HF.out, HB.out⟩
          case round =>
            clear HR HF HB
            obtain ⟨k, rfl, hk, hr, hf, hb⟩ := hrel
            have HR := Lib.hid hr
            have HF := Lib.hid hf
            have HB := Lib.hid hb
            clear hr hf hb
            by_cases h1 : C1 = 0
            · have A1 := Lib.hid (rts_ok (H1.out.trans h1))
              subst h1
              by_cases hlt : k < n
              · obtain ⟨b, o, hbo, hc⟩ := HR.out.at (k := k) (by rw [HN.out]; omega)
                subst hbo
                have hmm := rtL_mem p f p.toNat (el rs k) (by rw [← A1.out.2, HRS.out]; exact el_mem (by rw [HN.out]; exact hlt))
                obtain ⟨x, hx⟩ : ∃ x, el rs k = x := ⟨_, rfl⟩
                rw [hx] at hmm hc
                have hx0 : 0 ≤ x := hmm.1
                have hxp : x < p := by have := hmm.2.1; omega
                have D := Lib.hid (lin_nil A1.out.1 ⟨hx0, hxp⟩ hmm.2.2)
                have hpx : 0 ≤ p - x := by omega
                have hp0 : ¬ p = 0 := by omega
                have K3 := Lib.hid (DivideModular_any (p := p) (w := wr.alloc (.cells #[.int .i64 (-x % p), .int .i64 1] 2)) (HF.out.step (below_box _)) (reads_two wr (-x % p) 1))
                rw [D.out.1, D.out.2] at K3
                clear hmm hx
                go_wp2_with (go_at_call 47; (with_reducible refine K3.out.mono ?_))
                rintro _ w4 ⟨va, vb, wy, rfl, _, _, oN, hbN, oM, hbM⟩
                obtain ⟨sd, se, rfl, _, _⟩ := reads_nil_eq oM.reads
                have HB4 := Lib.hid (show Below wr.heap.size wr w4 from ((below_box _).trans (hbN.mono (by simp))).trans (hbM.mono (by have := hbN.size; simp at this; omega)))
                clear oN hbN oM hbM
                go_wp2
                go_roundw
                case rel => exact ⟨k + 1, by go_num, by omega, HR.out.step HB4.out, HF.out.step HB4.out, HB.out.trans (HB4.out.mono HB.out.size)⟩
                case measure => simp [intOf]; omega
              · obtain rfl : k = n := by omega
                go_wp2
                go_ret
                exact ⟨rfl, HB.out⟩
            · have h1b : (C1 == 0) = false := by simpa using h1
              go_wp2
              go_ret
              exact ⟨rfl, HB.out⟩
      · subst h2
        go_wp2
        go_loopw [21] (fun c wr => ∃ k : Nat, c = .int .i64 (k : Int) ∧ k ≤ n ∧ Reads wr (.slice sa2 n sc2) rs ∧ Reads wr vf f ∧ Below w.heap.size w wr) (fun c _ => n - (intOf c).toNat)
        case atStart => exact ⟨0, rfl, by omega, HR.out, HF.out, HB.out⟩
        case round =>
          clear HR HF HB
          obtain ⟨k, rfl, hk, hr, hf, hb⟩ := hrel
          have HR := Lib.hid hr
          have HF := Lib.hid hf
          have HB := Lib.hid hb
          clear hr hf hb
          by_cases h1 : C1 = 0
          · have A1 := Lib.hid (rts_ok (H1.out.trans h1))
            subst h1
            by_cases hlt : k < n
            · obtain ⟨b, o, hbo, hc⟩ := HR.out.at (k := k) (by rw [HN.out]; omega)
              subst hbo
              have hmm := rtL_mem p f p.toNat (el rs k) (by rw [← A1.out.2, HRS.out]; exact el_mem (by rw [HN.out]; exact hlt))
              obtain ⟨x, hx⟩ : ∃ x, el rs k = x := ⟨_, rfl⟩
              rw [hx] at hmm hc
              have hx0 : 0 ≤ x := hmm.1
              have hxp : x < p := by have := hmm.2.1; omega
              have D := Lib.hid (lin_nil A1.out.1 ⟨hx0, hxp⟩ hmm.2.2)
              have hpx : 0 ≤ p - x := by omega
              have hp0 : ¬ p = 0 := by omega
              have K3 := Lib.hid (DivideModular_any (p := p) (w := wr.alloc (.cells #[.int .i64 (-x % p), .int .i64 1] 2)) (HF.out.step (below_box _)) (reads_two wr (-x % p) 1))
              rw [D.out.1, D.out.2] at K3
              clear hmm hx
              go_wp2_with (go_at_call 47; (with_reducible refine K3.out.mono ?_))
              rintro _ w4 ⟨va, vb, wy, rfl, _, _, oN, hbN, oM, hbM⟩
              obtain ⟨sd, se, rfl, _, _⟩ := reads_nil_eq oM.reads
              have HB4 := Lib.hid (show Below wr.heap.size wr w4 from ((below_box _).trans (hbN.mono (by simp))).trans (hbM.mono (by have := hbN.size; simp at this; omega)))
              clear oN hbN oM hbM
              go_wp2
              go_roundw
              case rel => exact ⟨k + 1, by go_num, by omega, HR.out.step HB4.out, HF.out.step HB4.out, HB.out.trans (HB4.out.mono HB.out.size)⟩
              case measure => simp [intOf]; omega
            · obtain rfl : k = n := by omega
              go_wp2
              go_ret
              exact ⟨rfl, HB.out⟩
          · have h1b : (C1 == 0) = false := by simpa using h1
            go_wp2
            go_ret
            exact ⟨rfl, HB.out⟩
    · have hg9 : ¬ (gl : Int) < 9 := by omega
      subst h2
      go_wp2
      go_loopw [21] (fun c wr => ∃ k : Nat, c = .int .i64 (k : Int) ∧ k ≤ n ∧ Reads wr (.slice sa2 n sc2) rs ∧ Reads wr vf f ∧ Below w.heap.size w wr) (fun c _ => n - (intOf c).toNat)
      case atStart => exact ⟨0, rfl, by omega, HR.out, HF.out, HB.out⟩
      case round =>
        clear HR HF HB
        obtain ⟨k, rfl, hk, hr, hf, hb⟩ := hrel
        have HR := Lib.hid hr
        have HF := Lib.hid hf
        have HB := Lib.hid hb
        clear hr hf hb
        by_cases h1 : C1 = 0
        · have A1 := Lib.hid (rts_ok (H1.out.trans h1))
          subst h1
          by_cases hlt : k < n
          · obtain ⟨b, o, hbo, hc⟩ := HR.out.at (k := k) (by rw [HN.out]; omega)
            subst hbo
            have hmm := rtL_mem p f p.toNat (el rs k) (by rw [← A1.out.2, HRS.out]; exact el_mem (by rw [HN.out]; exact hlt))
            obtain ⟨x, hx⟩ : ∃ x, el rs k = x := ⟨_, rfl⟩
            rw [hx] at hmm hc
            have hx0 : 0 ≤ x := hmm.1
            have hxp : x < p := by have := hmm.2.1; omega
            have D := Lib.hid (lin_nil A1.out.1 ⟨hx0, hxp⟩ hmm.2.2)
            have hpx : 0 ≤ p - x := by omega
            have hp0 : ¬ p = 0 := by omega
            have K3 := Lib.hid (DivideModular_any (p := p) (w := wr.alloc (.cells #[.int .i64 (-x % p), .int .i64 1] 2)) (HF.out.step (below_box _)) (reads_two wr (-x % p) 1))
            rw [D.out.1, D.out.2] at K3
            clear hmm hx
            go_wp2_with (go_at_call 47; (with_reducible refine K3.out.mono ?_))
            rintro _ w4 ⟨va, vb, wy, rfl, _, _, oN, hbN, oM, hbM⟩
            obtain ⟨sd, se, rfl, _, _⟩ := reads_nil_eq oM.reads
            have HB4 := Lib.hid (show Below wr.heap.size wr w4 from ((below_box _).trans (hbN.mono (by simp))).trans (hbM.mono (by have := hbN.size; simp at this; omega)))
            clear oN hbN oM hbM
            go_wp2
            go_roundw
            case rel => exact ⟨k + 1, by go_num, by omega, HR.out.step HB4.out, HF.out.step HB4.out, HB.out.trans (HB4.out.mono HB.out.size)⟩
            case measure => simp [intOf]; omega
          · obtain rfl : k = n := by omega
            go_wp2
            go_ret
            exact ⟨rfl, HB.out⟩
        · have h1b : (C1 == 0) = false := by simpa using h1
          go_wp2
          go_ret
          exact ⟨rfl, HB.out⟩
  · have h2b : (C2 == 0) = false := by simpa using h2
    go_wp2
    go_loopw [21] (fun c wr => ∃ k : Nat, c = .int .i64 (k : Int) ∧ k ≤ n ∧ Reads wr (.slice sa2 n sc2) rs ∧ Reads wr vf f ∧ Below w.heap.size w wr) (fun c _ => n - (intOf c).toNat)
    case atStart => exact ⟨0, rfl, by omega, HR.out, HF.out, HB.out⟩
    case round =>
      clear HR HF HB
      obtain ⟨k, rfl, hk, hr, hf, hb⟩ := hrel
      have HR := Lib.hid hr
      have HF := Lib.hid hf
      have HB := Lib.hid hb
      clear hr hf hb
      by_cases h1 : C1 = 0
      · have A1 := Lib.hid (rts_ok (H1.out.trans h1))
        subst h1
        by_cases hlt : k < n
        · obtain ⟨b, o, hbo, hc⟩ := HR.out.at (k := k) (by rw [HN.out]; omega)
          subst hbo
          have hmm := rtL_mem p f p.toNat (el rs k) (by rw [← A1.out.2, HRS.out]; exact el_mem (by rw [HN.out]; exact hlt))
          obtain ⟨x, hx⟩ : ∃ x, el rs k = x := ⟨_, rfl⟩
          rw [hx] at hmm hc
          have hx0 : 0 ≤ x := hmm.1
          have hxp : x < p := by have := hmm.2.1; omega
          have D := Lib.hid (lin_nil A1.out.1 ⟨hx0, hxp⟩ hmm.2.2)
          have hpx : 0 ≤ p - x := by omega
          have hp0 : ¬ p = 0 := by omega
          have K3 := Lib.hid (DivideModular_any (p := p) (w := wr.alloc (.cells #[.int .i64 (-x % p), .int .i64 1] 2)) (HF.out.step (below_box _)) (reads_two wr (-x % p) 1))
          rw [D.out.1, D.out.2] at K3
          clear hmm hx
          go_wp2_with (go_at_call 47; (with_reducible refine K3.out.mono ?_))
          rintro _ w4 ⟨va, vb, wy, rfl, _, _, oN, hbN, oM, hbM⟩
          obtain ⟨sd, se, rfl, _, _⟩ := reads_nil_eq oM.reads
          have HB4 := Lib.hid (show Below wr.heap.size wr w4 from ((below_box _).trans (hbN.mono (by simp))).trans (hbM.mono (by have := hbN.size; simp at this; omega)))
          clear oN hbN oM hbM
          go_wp2
          go_roundw
          case rel => exact ⟨k + 1, by go_num, by omega, HR.out.step HB4.out, HF.out.step HB4.out, HB.out.trans (HB4.out.mono HB.out.size)⟩
          case measure => simp [intOf]; omega
        · obtain rfl : k = n := by omega
          go_wp2
          go_ret
          exact ⟨rfl, HB.out⟩
      · have h1b : (C1 == 0) = false := by simpa using h1
        go_wp2
        go_ret
        exact ⟨rfl, HB.out⟩

theorem own : ownKnob Try.prog.godebug = none := by kernel_rfl
theorem laidOut : laidOutB Try.prog = true := by kernel_rfl

set_option maxRecDepth 100000 in
theorem lifted (os : Os) (started : os.Started) (H : Type) (enc : TypeId × Value → H) :
    ReturnsInHanded {} Try.checked os 11 .any (Rows.fnModularRootsSpec.pre6 enc Try.prog Try.f11 Rows.fnModularRootsRow.domain false) (Rows.fnModularRootsSpec.post enc Try.prog Try.f11 false true false false) := by
  refine returnsInHanded_of_change (C := Try.checked) own started (by kernel_rfl) Try.func11
    (ChangeSpec.witness6 (enc := enc) (C := Try.checked) false ⟨#[], #[.slice none 0 0], []⟩ 8 (by kernel_rfl) (by kernel_rfl) (by kernel_rfl) (by kernel_rfl)) ?_
  intro W base args ds gs before hval0 hW hcnd _
  have hval : ∀ (j : Nat) t v, Try.f11.params[j]? = some t → args[j]? = some v → Value.okWide Try.prog W .any base t v := hval0
  have hW' := hW
  obtain ⟨p, q, hA0, hV, rfl, hfz, hnd⟩ := hW
  have hA : DataW.TrodAll enc Try.prog W 0 (fun _ => true) true Try.f11.params.toList args.toList ds p := hA0
  rw [Try.params11] at hA hval
  obtain ⟨v0, vs0, d0, ds0, p0, q0, hargs, rfl, rfl, h0, r0⟩ := trodAll_cons hA
  obtain ⟨rfl, rfl, rfl⟩ := trodAll_nil r0
  obtain rfl : args = #[v0] := by cases args; simp_all
  obtain ⟨rfl, rfl⟩ := trodVars_none hV
  have k0 := h0
  have lt0 : ∀ x ∈ p0, x.block < W.heap.size := by obtain ⟨m, hm⟩ := k0; exact DataW.trod_lt m _ _ _ hm
  obtain ⟨a0, len0, cap0, rfl⟩ := okWide_slice Try.underlying28 (hval 0 28 v0 rfl rfl)
  obtain ⟨z0, w0⟩ : ∃ zs, IsRow .u8 W a0 len0 cap0 zs := by
    obtain ⟨fuel, hf⟩ := h0
    rcases open_ints Try.underlying28 Try.underlying5 (by kernel_rfl) hf with ⟨hcs, _⟩ | ⟨x, l, c, zs, hcs, _, hl, hm, hz, _, hcell, hwz⟩
    · simp [Value.cells] at hcs
      obtain ⟨rfl, rfl, rfl⟩ := hcs
      exact ⟨[], .inl ⟨rfl, rfl, rfl, rfl⟩⟩
    · simp [Value.cells] at hcs
      obtain ⟨rfl, rfl, rfl⟩ := hcs
      exact ⟨zs, .inr ⟨_, rfl, hl, hm, by simpa using hz, hcell, hwz⟩⟩
  clear hA0 hval0
  refine (walk a0 len0 cap0 z0 W w0).mono fun e W' ⟨he, bel⟩ => ?_
  subst he
  exact ⟨_, rfl, _, _, _, [], _, [], hW', trodAll_mk1 (shut_bool Try.underlying4 _), (trodAll_cons_mk (Below.trod laidOut (by kernel_rfl) (of_decide_eq_true (by kernel_rfl)) k0 bel lt0) trodAll_mk0), rfl, bel.frame _, fun h => by cases h⟩

theorem over : Rows.fnModularRootsRow.holds Try.pinned (OpenSpec.ofChange Rows.fnModularRootsSpec) :=
  OpenClaim.holds_of_wide 11 Try.f11 rfl rfl rfl rfl rfl rfl rfl ⟨rfl, rfl, rfl, rfl, rfl⟩ rfl rfl rfl rfl rfl (by kernel_rfl) Try.func11 (by kernel_rfl)
    (of_decide_eq_true (by kernel_rfl)) (by unfold Func.isWrapper; first | (rw [if_pos (by decide +kernel)]; kernel_rfl) | (rw [if_neg (by decide +kernel)]; exact ⟨rfl, rfl⟩))
    (fun os started H enc _ => lifted os started H enc)

theorem proved : Rows.FnModularRootsSaid := over
#print axioms proved
end Go.Proofs.Ytlndfjplhfgicaa.modularRoots
