/- 'laws.FnModularDivisors' returns true for all arguments: a common divisor divides both polynomials, and a square-free one has none with its derivative. Conditions: none. -/
import Derived.Test.YtlndfjplhfgicaaRows
import Derived.WalkKit
import Derived.ProofKit
import Derived.OpenShut
import Derived.ShutString
import Derived.ChangeOld
import Derived.Below
import Derived.Lib.SmallJoins
import Derived.Test.YtlndfjplhfgicaaOt
import Derived.Test.YtlndfjplhfgicaaOu
import Derived.Test.YtlndfjplhfgicaaNk
import Derived.Test.YtlndfjplhfgicaaNi
namespace Go.Proofs.Ytlndfjplhfgicaa.modularDivisors
open Go.ChangeShapes Go.WideShapes Go.ChangeAt Go.RowKit
open Go.ChangeMaps (open_string shut_string)
set_option linter.unusedVariables false
set_option linter.unusedSimpArgs false


theorem com_ok {p : Int} {f g : List Int} (h : commonModular.code p f g = 0) : modlB p f = true ∧ modlB p g = true ∧ commonModular.out p f g = comL p f g := by
  unfold commonModular.code at h
  unfold commonModular.out
  by_cases h1 : modlB p f = true
  · rw [if_pos h1] at h ⊢
    by_cases h2 : modlB p g = true
    · rw [if_pos h2]; exact ⟨h1, h2, rfl⟩
    · rw [if_neg h2] at h; cases h
  · rw [if_neg h1] at h; cases h
theorem div_nil {p : Int} {f c : List Int} (hf : modlB p f = true) (hc : modlB p c = true) (h0 : 0 < c.length) (hr : remR p f c = []) : dmR p f c = [] ∧ twoC p f c = 0 := by
  have h : twoC p f c = 0 := by unfold twoC; rw [if_pos hf, if_pos hc, if_neg (by omega)]
  refine ⟨?_, h⟩
  unfold dmR
  rw [if_pos h, hr]
theorem sqf_ok {p : Int} {f : List Int} (h : sqfC p f = 0) : commonModular.code p f (derivativeModular.out p f) = 0 ∧ commonModular.out p f (derivativeModular.out p f) = comL p f (derP p f) ∧ sqfB p f = decide ((comL p f (derP p f)).length = 1) := by
  unfold sqfC at h
  by_cases h1 : modlB p f = true
  · obtain ⟨p1, p2, hs, l1, i1⟩ := modl_in h1
    obtain ⟨d1, d2, d3, d4⟩ := derP_facts (f := f) ⟨p1, p2⟩ l1
    have hd : modlB p (derP p f) = true := modlB_of hs d2 d3 d1
    unfold commonModular.code commonModular.out derivativeModular.out sqfB
    simp [h1, hd]
  · rw [if_neg h1] at h; cases h

set_option maxRecDepth 100000 in
set_option maxHeartbeats 16000000 in
theorem walk (a0 : Option Addr) (len0 cap0 : Nat) (z0 : List Int) (w : World) (ha0 : IsRow .u8 w a0 len0 cap0 z0) :
    Calls Try.prog 9 #[.slice a0 len0 cap0] w fun e w' => e = .returned (.bool true) ∧ Below w.heap.size w w' := by
  by_cases hbig : len0 ≤ 4096
  case neg =>
    go_enter Try.func9, Try.ntmps9
    go_wp2_with (go_at_call 18; with_reducible refine (big_yes (by omega) ha0.max).mono ?_)
    rintro _ _ ⟨rfl, rfl⟩
    go_wp2
    go_ret
    exact ⟨rfl, Below.refl _ _⟩
  obtain ⟨Z, hZ, hBs⟩ := ha0.bytes (by omega)
  subst hZ
  have HBs := Lib.hid hBs
  clear hBs ha0
  have HB := Lib.hid (Below.refl w.heap.size w)
  go_enter Try.func9, Try.ntmps9
  go_wp2_with (go_at_call 18; with_reducible refine (big_no hbig).mono ?_)
  rintro _ _ ⟨rfl, rfl⟩

  have HBz := Lib.hid (HBs.out.next HB.out HB.out.size)
  go_wp2_with (go_at_call 39; with_reducible refine (DrawCommonModular_any HBz.out).mono ?_)
  rintro _ wz1 ⟨p, f, g, vf, vg, rfl, hp, oF, oG, hbN⟩
  replace HB := Lib.hid (HB.out.trans (hbN.mono HB.out.size))
  have HF := Lib.hid oF.reads
  have HG := Lib.hid oG.reads
  clear HBz hbN oF oG
  go_wp2_with (go_at_call 40; with_reducible refine (commonModular.impl_any HF.out HG.out).mono ?_)
  rintro _ wz2 ⟨v2, rfl, oN, hbN⟩
  obtain ⟨sa2, sc2, rfl, _, _⟩ := reads_nil_eq oN.reads
  replace HF := Lib.hid (HF.out.step hbN)
  replace HG := Lib.hid (HG.out.step hbN)
  replace HB := Lib.hid (HB.out.trans (hbN.mono HB.out.size))
  have HC := Lib.hid oN.reads
  clear oN hbN
  go_wp2_with (go_at_call 41; with_reducible refine (commonModular.spec_any HF.out HG.out).mono ?_)
  rintro _ wz3 ⟨v3, rfl, oN, hbN⟩
  obtain ⟨sa3, sc3, rfl, _, _⟩ := reads_nil_eq oN.reads
  replace HF := Lib.hid (HF.out.step hbN)
  replace HG := Lib.hid (HG.out.step hbN)
  replace HC := Lib.hid (HC.out.step hbN)
  replace HB := Lib.hid (HB.out.trans (hbN.mono HB.out.size))
  have HM := Lib.hid oN.reads
  clear oN hbN
  have HBz := Lib.hid (HBs.out.next HB.out HB.out.size)
  go_wp2_with (go_at_call 42; with_reducible refine (DrawIsSquareFree_any HBz.out).mono ?_)
  rintro _ wz4 ⟨q, h, vh, rfl, hq, oH, hbN⟩
  replace HF := Lib.hid (HF.out.step hbN)
  replace HG := Lib.hid (HG.out.step hbN)
  replace HC := Lib.hid (HC.out.step hbN)
  replace HM := Lib.hid (HM.out.step hbN)
  replace HB := Lib.hid (HB.out.trans (hbN.mono HB.out.size))
  have HH := Lib.hid oH.reads
  clear HBz hbN oH
  obtain ⟨ha, hcap, rfl, _, _⟩ := reads_nil_eq HH.out
  obtain ⟨sb, hsb⟩ : ∃ sb, sqfB q h = sb := ⟨_, rfl⟩
  have HSB := Lib.hid hsb
  have K1 := Lib.hid (fun (w : World) (hr : Reads w (.slice ha h.length hcap) h) => IsSquareFree_any (p := q) hr)
  have K2 := Lib.hid (fun (w : World) (hr : Reads w (.slice ha h.length hcap) h) => sIsSquareFree_any (p := q) hr)
  rw [hsb] at K1 K2
  clear hsb
  go_wp2_with (go_at_call 43; with_reducible refine (K1.out _ HH.out).mono ?_)
  rintro _ wz5 ⟨rfl, hbN⟩
  replace HF := Lib.hid (HF.out.step hbN)
  replace HG := Lib.hid (HG.out.step hbN)
  replace HC := Lib.hid (HC.out.step hbN)
  replace HM := Lib.hid (HM.out.step hbN)
  replace HH := Lib.hid (HH.out.step hbN)
  replace HB := Lib.hid (HB.out.trans (hbN.mono HB.out.size))
  clear hbN
  go_wp2_with (go_at_call 44; with_reducible refine (K2.out _ HH.out).mono ?_)
  rintro _ wz6 ⟨rfl, hbN⟩
  replace HF := Lib.hid (HF.out.step hbN)
  replace HG := Lib.hid (HG.out.step hbN)
  replace HC := Lib.hid (HC.out.step hbN)
  replace HM := Lib.hid (HM.out.step hbN)
  replace HH := Lib.hid (HH.out.step hbN)
  replace HB := Lib.hid (HB.out.trans (hbN.mono HB.out.size))
  clear hbN
  go_wp2_with (go_at_call 45; with_reducible refine (derivativeModular.impl_any HH.out).mono ?_)
  rintro _ wz7 ⟨v7, rfl, oN, hbN⟩
  obtain ⟨sa7, sc7, rfl, _, _⟩ := reads_nil_eq oN.reads
  replace HF := Lib.hid (HF.out.step hbN)
  replace HG := Lib.hid (HG.out.step hbN)
  replace HC := Lib.hid (HC.out.step hbN)
  replace HM := Lib.hid (HM.out.step hbN)
  replace HH := Lib.hid (HH.out.step hbN)
  replace HB := Lib.hid (HB.out.trans (hbN.mono HB.out.size))
  have HD := Lib.hid oN.reads
  clear oN hbN
  go_wp2_with (go_at_call 46; with_reducible refine (derivativeModular.spec_any HH.out).mono ?_)
  rintro _ wz8 ⟨v8, rfl, oN, hbN⟩
  obtain ⟨sa8, sc8, rfl, _, _⟩ := reads_nil_eq oN.reads
  replace HF := Lib.hid (HF.out.step hbN)
  replace HG := Lib.hid (HG.out.step hbN)
  replace HC := Lib.hid (HC.out.step hbN)
  replace HM := Lib.hid (HM.out.step hbN)
  replace HH := Lib.hid (HH.out.step hbN)
  replace HD := Lib.hid (HD.out.step hbN)
  replace HB := Lib.hid (HB.out.trans (hbN.mono HB.out.size))
  have HE := Lib.hid oN.reads
  clear oN hbN
  obtain ⟨C1, hC1⟩ : ∃ C, commonModular.code p f g = C := ⟨_, rfl⟩
  obtain ⟨C2, hC2⟩ : ∃ C, sqfC q h = C := ⟨_, rfl⟩
  obtain ⟨C3, hC3⟩ : ∃ C, derivativeModular.code q h = C := ⟨_, rfl⟩
  rw [hC1, hC2, hC3]
  have f1 : (C1 != C1) = false := by simp
  have f2 : (C2 != C2) = false := by simp
  have f3 : (C3 != C3) = false := by simp
  have f4 : (sb != sb) = false := by simp
  have H1 := Lib.hid hC1
  have H2 := Lib.hid hC2
  clear hC1 hC2 hC3
  go_wp2_with (go_at_call 27; with_reducible refine (likeInts_same HC.out HM.out).mono ?_)
  rintro _ wz9 ⟨rfl, hbN⟩
  replace HF := Lib.hid (HF.out.step hbN)
  replace HG := Lib.hid (HG.out.step hbN)
  replace HC := Lib.hid (HC.out.step hbN)
  replace HM := Lib.hid (HM.out.step hbN)
  replace HH := Lib.hid (HH.out.step hbN)
  replace HD := Lib.hid (HD.out.step hbN)
  replace HE := Lib.hid (HE.out.step hbN)
  replace HB := Lib.hid (HB.out.trans (hbN.mono HB.out.size))
  clear hbN
  go_wp2_with (go_at_call 27; with_reducible refine (likeInts_same HD.out HE.out).mono ?_)
  rintro _ wz10 ⟨rfl, hbN⟩
  replace HF := Lib.hid (HF.out.step hbN)
  replace HG := Lib.hid (HG.out.step hbN)
  replace HC := Lib.hid (HC.out.step hbN)
  replace HM := Lib.hid (HM.out.step hbN)
  replace HH := Lib.hid (HH.out.step hbN)
  replace HD := Lib.hid (HD.out.step hbN)
  replace HE := Lib.hid (HE.out.step hbN)
  replace HB := Lib.hid (HB.out.trans (hbN.mono HB.out.size))
  clear hbN
  clear HM HE
  by_cases h2 : C2 = 0
  · have S := Lib.hid (sqf_ok (H2.out.trans h2))
    subst h2
    by_cases hl : h.length = 0
    · have hlb : ¬ (0 : Int) < (h.length : Int) := by omega
      by_cases h1 : C1 = 0
      · have A1 := Lib.hid (com_ok (H1.out.trans h1))
        subst h1
        by_cases h0 : (commonModular.out p f g).length = 0
        · go_wp2
          go_ret
          exact ⟨rfl, HB.out⟩
        obtain ⟨A2, A3, A4⟩ := A1.out
        have B := com_facts A2 A3 (by rw [← A4]; omega)
        rw [← A4] at B
        have D1 := div_nil A2 B.1 (by omega) B.2.1
        have D2 := div_nil A3 B.1 (by omega) B.2.2.1
        have B4 := B.2.2.2
        clear A4 A1
        generalize commonModular.out p f g = c at *
        have K3 := Lib.hid (DivideModular_any (p := p) HF.out HC.out)
        rw [D1.1, D1.2] at K3
        go_wp2_with (go_at_call 47; with_reducible refine (K3.out).mono ?_)
        rintro _ wz11 ⟨va11, vb11, wy11, rfl, _, _, oN, hbN, oM, hbM⟩
        obtain ⟨sa11, sc11, rfl, _, _⟩ := reads_nil_eq oN.reads
        obtain ⟨sd11, se11, rfl, _, _⟩ := reads_nil_eq oM.reads
        replace HF := Lib.hid (HF.out.step hbN)
        replace HG := Lib.hid (HG.out.step hbN)
        replace HC := Lib.hid (HC.out.step hbN)
        replace HH := Lib.hid (HH.out.step hbN)
        replace HD := Lib.hid (HD.out.step hbN)
        replace HB := Lib.hid (HB.out.trans (hbN.mono HB.out.size))
        replace HF := Lib.hid (HF.out.step hbM)
        replace HG := Lib.hid (HG.out.step hbM)
        replace HC := Lib.hid (HC.out.step hbM)
        replace HH := Lib.hid (HH.out.step hbM)
        replace HD := Lib.hid (HD.out.step hbM)
        replace HB := Lib.hid (HB.out.trans (hbM.mono HB.out.size))
        have HQ1 := Lib.hid (oN.reads.step hbM)
        have HR1 := Lib.hid oM.reads
        clear oN hbN oM hbM
        have K4 := Lib.hid (DivideModular_any (p := p) HG.out HC.out)
        rw [D2.1, D2.2] at K4
        go_wp2_with (go_at_call 47; with_reducible refine (K4.out).mono ?_)
        rintro _ wz12 ⟨va12, vb12, wy12, rfl, _, _, oN, hbN, oM, hbM⟩
        obtain ⟨sa12, sc12, rfl, _, _⟩ := reads_nil_eq oN.reads
        obtain ⟨sd12, se12, rfl, _, _⟩ := reads_nil_eq oM.reads
        replace HF := Lib.hid (HF.out.step hbN)
        replace HG := Lib.hid (HG.out.step hbN)
        replace HC := Lib.hid (HC.out.step hbN)
        replace HH := Lib.hid (HH.out.step hbN)
        replace HD := Lib.hid (HD.out.step hbN)
        replace HQ1 := Lib.hid (HQ1.out.step hbN)
        replace HR1 := Lib.hid (HR1.out.step hbN)
        replace HB := Lib.hid (HB.out.trans (hbN.mono HB.out.size))
        replace HF := Lib.hid (HF.out.step hbM)
        replace HG := Lib.hid (HG.out.step hbM)
        replace HC := Lib.hid (HC.out.step hbM)
        replace HH := Lib.hid (HH.out.step hbM)
        replace HD := Lib.hid (HD.out.step hbM)
        replace HQ1 := Lib.hid (HQ1.out.step hbM)
        replace HR1 := Lib.hid (HR1.out.step hbM)
        replace HB := Lib.hid (HB.out.trans (hbM.mono HB.out.size))
        have HQ2 := Lib.hid (oN.reads.step hbM)
        have HR2 := Lib.hid oM.reads
        clear oN hbN oM hbM
        have hcl : c.length ≤ 1099511627776 := HC.out.1
        obtain ⟨n, hn⟩ : ∃ n, c.length = n := ⟨_, rfl⟩
        have HN := Lib.hid hn
        rw [hn] at HC h0 hcl B4 ⊢
        clear hn D1 D2 B
        obtain ⟨b, o, hbo, hc⟩ := HC.out.at (k := n - 1) (by rw [HN.out]; omega)
        subst hbo
        rw [B4] at hc
        go_wp2
        go_ret
        exact ⟨rfl, HB.out⟩
      · have h1b : (C1 != 0) = true := by simpa using h1
        go_wp2
        go_ret
        exact ⟨rfl, HB.out⟩
    · have hlb : (0 : Int) < (h.length : Int) := by omega
      have K5 := Lib.hid (commonModular.impl_any (p := q) HH.out HD.out)
      rw [S.out.1, S.out.2.1] at K5
      have S3 := HSB.out.symm.trans S.out.2.2
      clear S
      go_wp2_with (go_at_call 40; with_reducible refine (K5.out).mono ?_)
      rintro _ wz13 ⟨v13, rfl, oN, hbN⟩
      obtain ⟨sa13, sc13, rfl, _, _⟩ := reads_nil_eq oN.reads
      replace HF := Lib.hid (HF.out.step hbN)
      replace HG := Lib.hid (HG.out.step hbN)
      replace HC := Lib.hid (HC.out.step hbN)
      replace HH := Lib.hid (HH.out.step hbN)
      replace HD := Lib.hid (HD.out.step hbN)
      replace HB := Lib.hid (HB.out.trans (hbN.mono HB.out.size))
      have HX := Lib.hid oN.reads
      clear oN hbN
      clear HX
      obtain ⟨m, hm⟩ : ∃ m, (comL q h (derP q h)).length = m := ⟨_, rfl⟩
      rw [hm] at S3 ⊢
      clear hm
      by_cases hm1 : m = 1
      · have hsb : sb = true := by rw [S3, hm1]; rfl
        clear S3
        subst hm1 hsb
        by_cases h1 : C1 = 0
        · have A1 := Lib.hid (com_ok (H1.out.trans h1))
          subst h1
          by_cases h0 : (commonModular.out p f g).length = 0
          · go_wp2
            go_ret
            exact ⟨rfl, HB.out⟩
          obtain ⟨A2, A3, A4⟩ := A1.out
          have B := com_facts A2 A3 (by rw [← A4]; omega)
          rw [← A4] at B
          have D1 := div_nil A2 B.1 (by omega) B.2.1
          have D2 := div_nil A3 B.1 (by omega) B.2.2.1
          have B4 := B.2.2.2
          clear A4 A1
          generalize commonModular.out p f g = c at *
          have K3 := Lib.hid (DivideModular_any (p := p) HF.out HC.out)
          rw [D1.1, D1.2] at K3
          go_wp2_with (go_at_call 47; with_reducible refine (K3.out).mono ?_)
          rintro _ wz14 ⟨va14, vb14, wy14, rfl, _, _, oN, hbN, oM, hbM⟩
          obtain ⟨sa14, sc14, rfl, _, _⟩ := reads_nil_eq oN.reads
          obtain ⟨sd14, se14, rfl, _, _⟩ := reads_nil_eq oM.reads
          replace HF := Lib.hid (HF.out.step hbN)
          replace HG := Lib.hid (HG.out.step hbN)
          replace HC := Lib.hid (HC.out.step hbN)
          replace HH := Lib.hid (HH.out.step hbN)
          replace HD := Lib.hid (HD.out.step hbN)
          replace HB := Lib.hid (HB.out.trans (hbN.mono HB.out.size))
          replace HF := Lib.hid (HF.out.step hbM)
          replace HG := Lib.hid (HG.out.step hbM)
          replace HC := Lib.hid (HC.out.step hbM)
          replace HH := Lib.hid (HH.out.step hbM)
          replace HD := Lib.hid (HD.out.step hbM)
          replace HB := Lib.hid (HB.out.trans (hbM.mono HB.out.size))
          have HQ1 := Lib.hid (oN.reads.step hbM)
          have HR1 := Lib.hid oM.reads
          clear oN hbN oM hbM
          have K4 := Lib.hid (DivideModular_any (p := p) HG.out HC.out)
          rw [D2.1, D2.2] at K4
          go_wp2_with (go_at_call 47; with_reducible refine (K4.out).mono ?_)
          rintro _ wz15 ⟨va15, vb15, wy15, rfl, _, _, oN, hbN, oM, hbM⟩
          obtain ⟨sa15, sc15, rfl, _, _⟩ := reads_nil_eq oN.reads
          obtain ⟨sd15, se15, rfl, _, _⟩ := reads_nil_eq oM.reads
          replace HF := Lib.hid (HF.out.step hbN)
          replace HG := Lib.hid (HG.out.step hbN)
          replace HC := Lib.hid (HC.out.step hbN)
          replace HH := Lib.hid (HH.out.step hbN)
          replace HD := Lib.hid (HD.out.step hbN)
          replace HQ1 := Lib.hid (HQ1.out.step hbN)
          replace HR1 := Lib.hid (HR1.out.step hbN)
          replace HB := Lib.hid (HB.out.trans (hbN.mono HB.out.size))
          replace HF := Lib.hid (HF.out.step hbM)
          replace HG := Lib.hid (HG.out.step hbM)
          replace HC := Lib.hid (HC.out.step hbM)
          replace HH := Lib.hid (HH.out.step hbM)
          replace HD := Lib.hid (HD.out.step hbM)
          replace HQ1 := Lib.hid (HQ1.out.step hbM)
          replace HR1 := Lib.hid (HR1.out.step hbM)
          replace HB := Lib.hid (HB.out.trans (hbM.mono HB.out.size))
          have HQ2 := Lib.hid (oN.reads.step hbM)
          have HR2 := Lib.hid oM.reads
          clear oN hbN oM hbM
          have hcl : c.length ≤ 1099511627776 := HC.out.1
          obtain ⟨n, hn⟩ : ∃ n, c.length = n := ⟨_, rfl⟩
          have HN := Lib.hid hn
          rw [hn] at HC h0 hcl B4 ⊢
          clear hn D1 D2 B
          obtain ⟨b, o, hbo, hc⟩ := HC.out.at (k := n - 1) (by rw [HN.out]; omega)
          subst hbo
          rw [B4] at hc
          go_wp2
          go_ret
          exact ⟨rfl, HB.out⟩
        · have h1b : (C1 != 0) = true := by simpa using h1
          go_wp2
          go_ret
          exact ⟨rfl, HB.out⟩
      · have hsb : sb = false := by rw [S3]; simpa using hm1
        clear S3
        have hmb : ((m : Int) == 1) = false := by simp; omega
        subst hsb
        by_cases h1 : C1 = 0
        · have A1 := Lib.hid (com_ok (H1.out.trans h1))
          subst h1
          by_cases h0 : (commonModular.out p f g).length = 0
          · go_wp2
            go_ret
            exact ⟨rfl, HB.out⟩
          obtain ⟨A2, A3, A4⟩ := A1.out
          have B := com_facts A2 A3 (by rw [← A4]; omega)
          rw [← A4] at B
          have D1 := div_nil A2 B.1 (by omega) B.2.1
          have D2 := div_nil A3 B.1 (by omega) B.2.2.1
          have B4 := B.2.2.2
          clear A4 A1
          generalize commonModular.out p f g = c at *
          have K3 := Lib.hid (DivideModular_any (p := p) HF.out HC.out)
          rw [D1.1, D1.2] at K3
          go_wp2_with (go_at_call 47; with_reducible refine (K3.out).mono ?_)
          rintro _ wz16 ⟨va16, vb16, wy16, rfl, _, _, oN, hbN, oM, hbM⟩
          obtain ⟨sa16, sc16, rfl, _, _⟩ := reads_nil_eq oN.reads
          obtain ⟨sd16, se16, rfl, _, _⟩ := reads_nil_eq oM.reads
          replace HF := Lib.hid (HF.out.step hbN)
          replace HG := Lib.hid (HG.out.step hbN)
          replace HC := Lib.hid (HC.out.step hbN)
          replace HH := Lib.hid (HH.out.step hbN)
          replace HD := Lib.hid (HD.out.step hbN)
          replace HB := Lib.hid (HB.out.trans (hbN.mono HB.out.size))
          replace HF := Lib.hid (HF.out.step hbM)
          replace HG := Lib.hid (HG.out.step hbM)
          replace HC := Lib.hid (HC.out.step hbM)
          replace HH := Lib.hid (HH.out.step hbM)
          replace HD := Lib.hid (HD.out.step hbM)
          replace HB := Lib.hid (HB.out.trans (hbM.mono HB.out.size))
          have HQ1 := Lib.hid (oN.reads.step hbM)
          have HR1 := Lib.hid oM.reads
          clear oN hbN oM hbM
          have K4 := Lib.hid (DivideModular_any (p := p) HG.out HC.out)
          rw [D2.1, D2.2] at K4
          go_wp2_with (go_at_call 47; with_reducible refine (K4.out).mono ?_)
          rintro _ wz17 ⟨va17, vb17, wy17, rfl, _, _, oN, hbN, oM, hbM⟩
          obtain ⟨sa17, sc17, rfl, _, _⟩ := reads_nil_eq oN.reads
          obtain ⟨sd17, se17, rfl, _, _⟩ := reads_nil_eq oM.reads
          replace HF := Lib.hid (HF.out.step hbN)
          replace HG := Lib.hid (HG.out.step hbN)
          replace HC := Lib.hid (HC.out.step hbN)
          replace HH := Lib.hid (HH.out.step hbN)
          replace HD := Lib.hid (HD.out.step hbN)
          replace HQ1 := Lib.hid (HQ1.out.step hbN)
          replace HR1 := Lib.hid (HR1.out.step hbN)
          replace HB := Lib.hid (HB.out.trans (hbN.mono HB.out.size))
          replace HF := Lib.hid (HF.out.step hbM)
          replace HG := Lib.hid (HG.out.step hbM)
          replace HC := Lib.hid (HC.out.step hbM)
          replace HH := Lib.hid (HH.out.step hbM)
          replace HD := Lib.hid (HD.out.step hbM)
          replace HQ1 := Lib.hid (HQ1.out.step hbM)
          replace HR1 := Lib.hid (HR1.out.step hbM)
          replace HB := Lib.hid (HB.out.trans (hbM.mono HB.out.size))
          have HQ2 := Lib.hid (oN.reads.step hbM)
          have HR2 := Lib.hid oM.reads
          clear oN hbN oM hbM
          have hcl : c.length ≤ 1099511627776 := HC.out.1
          obtain ⟨n, hn⟩ : ∃ n, c.length = n := ⟨_, rfl⟩
          have HN := Lib.hid hn
          rw [hn] at HC h0 hcl B4 ⊢
          clear hn D1 D2 B
          obtain ⟨b, o, hbo, hc⟩ := HC.out.at (k := n - 1) (by rw [HN.out]; omega)
          subst hbo
          rw [B4] at hc
          go_wp2
          go_ret
          exact ⟨rfl, HB.out⟩
        · have h1b : (C1 != 0) = true := by simpa using h1
          go_wp2
          go_ret
          exact ⟨rfl, HB.out⟩
  · have h2b : (C2 == 0) = false := by simpa using h2
    by_cases h1 : C1 = 0
    · have A1 := Lib.hid (com_ok (H1.out.trans h1))
      subst h1
      by_cases h0 : (commonModular.out p f g).length = 0
      · go_wp2
        go_ret
        exact ⟨rfl, HB.out⟩
      obtain ⟨A2, A3, A4⟩ := A1.out
      have B := com_facts A2 A3 (by rw [← A4]; omega)
      rw [← A4] at B
      have D1 := div_nil A2 B.1 (by omega) B.2.1
      have D2 := div_nil A3 B.1 (by omega) B.2.2.1
      have B4 := B.2.2.2
      clear A4 A1
      generalize commonModular.out p f g = c at *
      have K3 := Lib.hid (DivideModular_any (p := p) HF.out HC.out)
      rw [D1.1, D1.2] at K3
      go_wp2_with (go_at_call 47; with_reducible refine (K3.out).mono ?_)
      rintro _ wz18 ⟨va18, vb18, wy18, rfl, _, _, oN, hbN, oM, hbM⟩
      obtain ⟨sa18, sc18, rfl, _, _⟩ := reads_nil_eq oN.reads
      obtain ⟨sd18, se18, rfl, _, _⟩ := reads_nil_eq oM.reads
      replace HF := Lib.hid (HF.out.step hbN)
      replace HG := Lib.hid (HG.out.step hbN)
      replace HC := Lib.hid (HC.out.step hbN)
      replace HH := Lib.hid (HH.out.step hbN)
      replace HD := Lib.hid (HD.out.step hbN)
      replace HB := Lib.hid (HB.out.trans (hbN.mono HB.out.size))
      replace HF := Lib.hid (HF.out.step hbM)
      replace HG := Lib.hid (HG.out.step hbM)
      replace HC := Lib.hid (HC.out.step hbM)
      replace HH := Lib.hid (HH.out.step hbM)
      replace HD := Lib.hid (HD.out.step hbM)
      replace HB := Lib.hid (HB.out.trans (hbM.mono HB.out.size))
      have HQ1 := Lib.hid (oN.reads.step hbM)
      have HR1 := Lib.hid oM.reads
      clear oN hbN oM hbM
      have K4 := Lib.hid (DivideModular_any (p := p) HG.out HC.out)
      rw [D2.1, D2.2] at K4
      go_wp2_with (go_at_call 47; with_reducible refine (K4.out).mono ?_)
      rintro _ wz19 ⟨va19, vb19, wy19, rfl, _, _, oN, hbN, oM, hbM⟩
      obtain ⟨sa19, sc19, rfl, _, _⟩ := reads_nil_eq oN.reads
      obtain ⟨sd19, se19, rfl, _, _⟩ := reads_nil_eq oM.reads
      replace HF := Lib.hid (HF.out.step hbN)
      replace HG := Lib.hid (HG.out.step hbN)
      replace HC := Lib.hid (HC.out.step hbN)
      replace HH := Lib.hid (HH.out.step hbN)
      replace HD := Lib.hid (HD.out.step hbN)
      replace HQ1 := Lib.hid (HQ1.out.step hbN)
      replace HR1 := Lib.hid (HR1.out.step hbN)
      replace HB := Lib.hid (HB.out.trans (hbN.mono HB.out.size))
      replace HF := Lib.hid (HF.out.step hbM)
      replace HG := Lib.hid (HG.out.step hbM)
      replace HC := Lib.hid (HC.out.step hbM)
      replace HH := Lib.hid (HH.out.step hbM)
      replace HD := Lib.hid (HD.out.step hbM)
      replace HQ1 := Lib.hid (HQ1.out.step hbM)
      replace HR1 := Lib.hid (HR1.out.step hbM)
      replace HB := Lib.hid (HB.out.trans (hbM.mono HB.out.size))
      have HQ2 := Lib.hid (oN.reads.step hbM)
      have HR2 := Lib.hid oM.reads
      clear oN hbN oM hbM
      have hcl : c.length ≤ 1099511627776 := HC.out.1
      obtain ⟨n, hn⟩ : ∃ n, c.length = n := ⟨_, rfl⟩
      have HN := Lib.hid hn
      rw [hn] at HC h0 hcl B4 ⊢
      clear hn D1 D2 B
      obtain ⟨b, o, hbo, hc⟩ := HC.out.at (k := n - 1) (by rw [HN.out]; omega)
      subst hbo
      rw [B4] at hc
      go_wp2
      go_ret
      exact ⟨rfl, HB.out⟩
    · have h1b : (C1 != 0) = true := by simpa using h1
      go_wp2
      go_ret
      exact ⟨rfl, HB.out⟩

theorem own : ownKnob Try.prog.godebug = none := by kernel_rfl
theorem laidOut : laidOutB Try.prog = true := by kernel_rfl

set_option maxRecDepth 100000 in
theorem lifted (os : Os) (started : os.Started) (H : Type) (enc : TypeId × Value → H) :
    ReturnsInHanded {} Try.checked os 9 .any (Rows.fnModularDivisorsSpec.pre6 enc Try.prog Try.f9 Rows.fnModularDivisorsRow.domain false) (Rows.fnModularDivisorsSpec.post enc Try.prog Try.f9 false true false false) := by
  refine returnsInHanded_of_change (C := Try.checked) own started (by kernel_rfl) Try.func9
    (ChangeSpec.witness6 (enc := enc) (C := Try.checked) false ⟨#[], #[.slice none 0 0], []⟩ 8 (by kernel_rfl) (by kernel_rfl) (by kernel_rfl) (by kernel_rfl)) ?_
  intro W base args ds gs before hval0 hW hcnd _
  have hval : ∀ (j : Nat) t v, Try.f9.params[j]? = some t → args[j]? = some v → Value.okWide Try.prog W .any base t v := hval0
  have hW' := hW
  obtain ⟨p, q, hA0, hV, rfl, hfz, hnd⟩ := hW
  have hA : DataW.TrodAll enc Try.prog W 0 (fun _ => true) true Try.f9.params.toList args.toList ds p := hA0
  rw [Try.params9] at hA hval
  obtain ⟨v0, vs0, d0, ds0, p0, q0, hargs, rfl, rfl, h0, r0⟩ := trodAll_cons hA
  obtain ⟨rfl, rfl, rfl⟩ := trodAll_nil r0
  obtain rfl : args = #[v0] := by cases args; simp_all
  obtain ⟨rfl, rfl⟩ := trodVars_none hV
  have k0 := h0
  have lt0 : ∀ x ∈ p0, x.block < W.heap.size := by obtain ⟨m, hm⟩ := k0; exact DataW.trod_lt m _ _ _ hm
  obtain ⟨a0, len0, cap0, rfl⟩ := okWide_slice Try.underlying28 (hval 0 28 v0 rfl rfl)
  obtain ⟨z0, w0⟩ : ∃ zs, IsRow .u8 W a0 len0 cap0 zs := by
    obtain ⟨fuel, hf⟩ := h0
    rcases open_ints Try.underlying28 Try.underlying5 (by kernel_rfl) hf with ⟨hcs, _⟩ | ⟨x, l, c, zs, hcs, _, hl, hm, hz, _, hcell, hwz⟩
    · simp [Value.cells] at hcs
      obtain ⟨rfl, rfl, rfl⟩ := hcs
      exact ⟨[], .inl ⟨rfl, rfl, rfl, rfl⟩⟩
    · simp [Value.cells] at hcs
      obtain ⟨rfl, rfl, rfl⟩ := hcs
      exact ⟨zs, .inr ⟨_, rfl, hl, hm, by simpa using hz, hcell, hwz⟩⟩
  clear hA0 hval0
  refine (walk a0 len0 cap0 z0 W w0).mono fun e W' ⟨he, bel⟩ => ?_
  subst he
  exact ⟨_, rfl, _, _, _, [], _, [], hW', trodAll_mk1 (shut_bool Try.underlying4 _), (trodAll_cons_mk (Below.trod laidOut (by kernel_rfl) (of_decide_eq_true (by kernel_rfl)) k0 bel lt0) trodAll_mk0), rfl, bel.frame _, fun h => by cases h⟩

theorem over : Rows.fnModularDivisorsRow.holds Try.pinned (OpenSpec.ofChange Rows.fnModularDivisorsSpec) :=
  OpenClaim.holds_of_wide 9 Try.f9 rfl rfl rfl rfl rfl rfl rfl ⟨rfl, rfl, rfl, rfl, rfl⟩ rfl rfl rfl rfl rfl (by kernel_rfl) Try.func9 (by kernel_rfl)
    (of_decide_eq_true (by kernel_rfl)) (by unfold Func.isWrapper; first | (rw [if_pos (by decide +kernel)]; kernel_rfl) | (rw [if_neg (by decide +kernel)]; exact ⟨rfl, rfl⟩))
    (fun os started H enc _ => lifted os started H enc)

theorem proved : Rows.FnModularDivisorsSaid := over
#print axioms proved
end Go.Proofs.Ytlndfjplhfgicaa.modularDivisors
