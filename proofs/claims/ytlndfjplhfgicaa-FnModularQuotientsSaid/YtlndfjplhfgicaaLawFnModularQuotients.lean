/- 'laws.FnModularQuotients' returns true for all arguments: by a prime a polynomial is the divisor times the quotient plus the remainder. Conditions: none. -/
import Derived.Test.YtlndfjplhfgicaaRows
import Derived.WalkKit
import Derived.ProofKit
import Derived.OpenShut
import Derived.ShutString
import Derived.ChangeOld
import Derived.Below
import Derived.Lib.SmallJoins
import Derived.Test.YtlndfjplhfgicaaOv
import Derived.Test.YtlndfjplhfgicaaOu
import Derived.Test.YtlndfjplhfgicaaNm
import Derived.Test.YtlndfjplhfgicaaNi
namespace Go.Proofs.Ytlndfjplhfgicaa.modularQuotients
open Go.ChangeShapes Go.WideShapes Go.ChangeAt Go.RowKit
open Go.ChangeMaps (open_string shut_string)
set_option linter.unusedVariables false
set_option linter.unusedSimpArgs false


open multiplyModular (out code) in
theorem mul_ok {u : Int} {a b : List Int} (h : code u a b = 0) : code u b a = 0 ∧ out u b a = out u a b := by
  unfold code at h
  unfold code out
  by_cases h1 : modlB u a = true
  · rw [if_pos h1] at h
    by_cases h2 : modlB u b = true
    · rw [if_pos h2] at h
      have hp := (modl_in h1).1
      rw [if_pos h1, if_pos h2, if_pos h1, if_pos h2, if_pos h1, if_pos h2, tim_comm (by omega) b a]
      by_cases h3 : (timL u a b).length ≤ 9
      · rw [if_pos h3, if_pos h3]; exact ⟨rfl, rfl⟩
      · rw [if_neg h3] at h; cases h
    · rw [if_neg h2] at h; cases h
  · rw [if_neg h1] at h; cases h
open multiplyModular (out code) in
theorem quo_ok {p : Int} {f g : List Int} (h : twoC p f g = 0) : modlB p f = true ∧ code p g (dmQ p f g) = 0 ∧ redL p (addR (out p g (dmQ p f g)) (dmR p f g)) = f ∧ (dmR p f g).length < g.length ∧ In p (out p g (dmQ p f g)) ∧ In p (dmR p f g) ∧ (out p g (dmQ p f g)).length ≤ 9 ∧ (2 ≤ p ∧ p ≤ 97) := by
  obtain ⟨h1, h2, h3⟩ := two_ok h
  obtain ⟨q1, q2⟩ := quo_mod h1 h2 h3
  obtain ⟨p1, p2, hs, l1, i1⟩ := modl_in h1
  obtain ⟨_, _, _, l2, i2⟩ := modl_in h2
  unfold dmQ dmR code out
  rw [if_pos h, if_pos h, if_pos h2, if_pos q1, if_pos q2, if_pos h2, if_pos q1, if_pos q2]
  exact ⟨h1, rfl, quo_back h1 h2 h3, rem_lt hs i2 h3 (modl_tidy h2), timL_in (by omega) _ _, remR_in g (by omega) i1, q2, p1, p2⟩
/-- The sums by p, one by one. -/
def sumM (p : Int) (s r : List Int) : List Int := (addR s r).map (· % p)
theorem sumM_len (p : Int) (s r : List Int) : (sumM p s r).length = max s.length r.length := by unfold sumM; rw [List.length_map, add_len]
theorem sumM_next {p : Int} {s r : List Int} {k : Nat} (h : k < max s.length r.length) : (sumM p s r).take k ++ [(el s k + el r k) % p] = (sumM p s r).take (k + 1) := by
  have hk : k < (sumM p s r).length := by rw [sumM_len]; exact h
  rw [← take_next hk]
  congr 2
  have : k < (addR s r).length := by rw [add_len]; exact h
  rw [← el_add]
  simp [sumM, el, List.getElem?_eq_getElem this]

set_option maxRecDepth 100000 in
set_option maxHeartbeats 16000000 in
theorem walk (a0 : Option Addr) (len0 cap0 : Nat) (z0 : List Int) (w : World) (ha0 : IsRow .u8 w a0 len0 cap0 z0) :
    Calls Try.prog 10 #[.slice a0 len0 cap0] w fun e w' => e = .returned (.bool true) ∧ Below w.heap.size w w' := by
  by_cases hbig : len0 ≤ 4096
  case neg =>
    go_enter Try.func10, Try.ntmps10
    go_wp2_with (go_at_call 18; with_reducible refine (big_yes (by omega) ha0.max).mono ?_)
    rintro _ _ ⟨rfl, rfl⟩
    go_wp2
    go_ret
    exact ⟨rfl, Below.refl _ _⟩
  obtain ⟨Z, hZ, hBs⟩ := ha0.bytes (by omega)
  subst hZ
  have HBs := Lib.hid hBs
  clear hBs ha0
  have HB := Lib.hid (Below.refl w.heap.size w)
  go_enter Try.func10, Try.ntmps10
  go_wp2_with (go_at_call 18; with_reducible refine (big_no hbig).mono ?_)
  rintro _ _ ⟨rfl, rfl⟩

  have HBz := Lib.hid (HBs.out.next HB.out HB.out.size)
  go_wp2_with (go_at_call 48; with_reducible refine (DrawDivideModular_any HBz.out).mono ?_)
  rintro _ wz1 ⟨p, f, g, vf, vg, rfl, ⟨pb0, pb1⟩, oF, oG, hbN⟩
  replace HB := Lib.hid (HB.out.trans (hbN.mono HB.out.size))
  have HF := Lib.hid oF.reads
  have HG := Lib.hid oG.reads
  clear HBz hbN oF oG
  obtain ⟨ga, gcap, rfl, _, _⟩ := reads_nil_eq HG.out
  go_wp2_with (go_at_call 47; with_reducible refine (DivideModular_any HF.out HG.out).mono ?_)
  rintro _ wz2 ⟨va2, vb2, wy2, rfl, _, _, oN, hbN, oM, hbM⟩
  obtain ⟨sa2, sc2, rfl, _, _⟩ := reads_nil_eq oN.reads
  obtain ⟨sd2, se2, rfl, _, _⟩ := reads_nil_eq oM.reads
  replace HF := Lib.hid (HF.out.step hbN)
  replace HG := Lib.hid (HG.out.step hbN)
  replace HB := Lib.hid (HB.out.trans (hbN.mono HB.out.size))
  replace HF := Lib.hid (HF.out.step hbM)
  replace HG := Lib.hid (HG.out.step hbM)
  replace HB := Lib.hid (HB.out.trans (hbM.mono HB.out.size))
  have HQ := Lib.hid (oN.reads.step hbM)
  have HR := Lib.hid oM.reads
  clear oN hbN oM hbM
  go_wp2_with (go_at_call 49; with_reducible refine (sDivideModular_any HF.out HG.out).mono ?_)
  rintro _ wz3 ⟨va3, vb3, wy3, rfl, _, _, oN, hbN, oM, hbM⟩
  obtain ⟨sa3, sc3, rfl, _, _⟩ := reads_nil_eq oN.reads
  obtain ⟨sd3, se3, rfl, _, _⟩ := reads_nil_eq oM.reads
  replace HF := Lib.hid (HF.out.step hbN)
  replace HG := Lib.hid (HG.out.step hbN)
  replace HQ := Lib.hid (HQ.out.step hbN)
  replace HR := Lib.hid (HR.out.step hbN)
  replace HB := Lib.hid (HB.out.trans (hbN.mono HB.out.size))
  replace HF := Lib.hid (HF.out.step hbM)
  replace HG := Lib.hid (HG.out.step hbM)
  replace HQ := Lib.hid (HQ.out.step hbM)
  replace HR := Lib.hid (HR.out.step hbM)
  replace HB := Lib.hid (HB.out.trans (hbM.mono HB.out.size))
  have HQ2 := Lib.hid (oN.reads.step hbM)
  have HR2 := Lib.hid oM.reads
  clear oN hbN oM hbM
  have HBz := Lib.hid (HBs.out.next HB.out HB.out.size)
  go_wp2_with (go_at_call 50; with_reducible refine (DrawMultiplyModular_any HBz.out).mono ?_)
  rintro _ wz4 ⟨u, a, b, va, vb, rfl, hu, oA, oB, hbN⟩
  replace HF := Lib.hid (HF.out.step hbN)
  replace HG := Lib.hid (HG.out.step hbN)
  replace HQ := Lib.hid (HQ.out.step hbN)
  replace HR := Lib.hid (HR.out.step hbN)
  replace HQ2 := Lib.hid (HQ2.out.step hbN)
  replace HR2 := Lib.hid (HR2.out.step hbN)
  replace HB := Lib.hid (HB.out.trans (hbN.mono HB.out.size))
  have HX := Lib.hid oA.reads
  have HY := Lib.hid oB.reads
  clear HBz hbN oA oB
  go_wp2_with (go_at_call 51; with_reducible refine (multiplyModular.impl_any HX.out HY.out).mono ?_)
  rintro _ wz5 ⟨v5, rfl, oN, hbN⟩
  obtain ⟨sa5, sc5, rfl, _, _⟩ := reads_nil_eq oN.reads
  replace HF := Lib.hid (HF.out.step hbN)
  replace HG := Lib.hid (HG.out.step hbN)
  replace HQ := Lib.hid (HQ.out.step hbN)
  replace HR := Lib.hid (HR.out.step hbN)
  replace HQ2 := Lib.hid (HQ2.out.step hbN)
  replace HR2 := Lib.hid (HR2.out.step hbN)
  replace HX := Lib.hid (HX.out.step hbN)
  replace HY := Lib.hid (HY.out.step hbN)
  replace HB := Lib.hid (HB.out.trans (hbN.mono HB.out.size))
  have HM := Lib.hid oN.reads
  clear oN hbN
  go_wp2_with (go_at_call 52; with_reducible refine (multiplyModular.spec_any HX.out HY.out).mono ?_)
  rintro _ wz6 ⟨v6, rfl, oN, hbN⟩
  obtain ⟨sa6, sc6, rfl, _, _⟩ := reads_nil_eq oN.reads
  replace HF := Lib.hid (HF.out.step hbN)
  replace HG := Lib.hid (HG.out.step hbN)
  replace HQ := Lib.hid (HQ.out.step hbN)
  replace HR := Lib.hid (HR.out.step hbN)
  replace HQ2 := Lib.hid (HQ2.out.step hbN)
  replace HR2 := Lib.hid (HR2.out.step hbN)
  replace HX := Lib.hid (HX.out.step hbN)
  replace HY := Lib.hid (HY.out.step hbN)
  replace HM := Lib.hid (HM.out.step hbN)
  replace HB := Lib.hid (HB.out.trans (hbN.mono HB.out.size))
  have HM2 := Lib.hid oN.reads
  clear oN hbN
  have HBz := Lib.hid (HBs.out.next HB.out HB.out.size)
  go_wp2_with (go_at_call 53; with_reducible refine (DrawReducePolynomial_any HBz.out).mono ?_)
  rintro _ wz7 ⟨v, h, vh, rfl, hv, oH, hbN⟩
  replace HF := Lib.hid (HF.out.step hbN)
  replace HG := Lib.hid (HG.out.step hbN)
  replace HQ := Lib.hid (HQ.out.step hbN)
  replace HR := Lib.hid (HR.out.step hbN)
  replace HQ2 := Lib.hid (HQ2.out.step hbN)
  replace HR2 := Lib.hid (HR2.out.step hbN)
  replace HX := Lib.hid (HX.out.step hbN)
  replace HY := Lib.hid (HY.out.step hbN)
  replace HM := Lib.hid (HM.out.step hbN)
  replace HM2 := Lib.hid (HM2.out.step hbN)
  replace HB := Lib.hid (HB.out.trans (hbN.mono HB.out.size))
  have HH := Lib.hid oH.reads
  clear HBz hbN oH
  go_wp2_with (go_at_call 54; with_reducible refine (reducePolynomial.impl_any HH.out).mono ?_)
  rintro _ wz8 ⟨v8, rfl, oN, hbN⟩
  obtain ⟨sa8, sc8, rfl, _, _⟩ := reads_nil_eq oN.reads
  replace HF := Lib.hid (HF.out.step hbN)
  replace HG := Lib.hid (HG.out.step hbN)
  replace HQ := Lib.hid (HQ.out.step hbN)
  replace HR := Lib.hid (HR.out.step hbN)
  replace HQ2 := Lib.hid (HQ2.out.step hbN)
  replace HR2 := Lib.hid (HR2.out.step hbN)
  replace HX := Lib.hid (HX.out.step hbN)
  replace HY := Lib.hid (HY.out.step hbN)
  replace HM := Lib.hid (HM.out.step hbN)
  replace HM2 := Lib.hid (HM2.out.step hbN)
  replace HH := Lib.hid (HH.out.step hbN)
  replace HB := Lib.hid (HB.out.trans (hbN.mono HB.out.size))
  have HE := Lib.hid oN.reads
  clear oN hbN
  go_wp2_with (go_at_call 55; with_reducible refine (reducePolynomial.spec_any HH.out).mono ?_)
  rintro _ wz9 ⟨v9, rfl, oN, hbN⟩
  obtain ⟨sa9, sc9, rfl, _, _⟩ := reads_nil_eq oN.reads
  replace HF := Lib.hid (HF.out.step hbN)
  replace HG := Lib.hid (HG.out.step hbN)
  replace HQ := Lib.hid (HQ.out.step hbN)
  replace HR := Lib.hid (HR.out.step hbN)
  replace HQ2 := Lib.hid (HQ2.out.step hbN)
  replace HR2 := Lib.hid (HR2.out.step hbN)
  replace HX := Lib.hid (HX.out.step hbN)
  replace HY := Lib.hid (HY.out.step hbN)
  replace HM := Lib.hid (HM.out.step hbN)
  replace HM2 := Lib.hid (HM2.out.step hbN)
  replace HH := Lib.hid (HH.out.step hbN)
  replace HE := Lib.hid (HE.out.step hbN)
  replace HB := Lib.hid (HB.out.trans (hbN.mono HB.out.size))
  have HE2 := Lib.hid oN.reads
  clear oN hbN
  obtain ⟨C1, hC1⟩ : ∃ C, twoC p f g = C := ⟨_, rfl⟩
  obtain ⟨C2, hC2⟩ : ∃ C, multiplyModular.code u a b = C := ⟨_, rfl⟩
  obtain ⟨C3, hC3⟩ : ∃ C, reducePolynomial.code v h = C := ⟨_, rfl⟩
  rw [hC1, hC2, hC3]
  have f1 : (C1 != C1) = false := by simp
  have f2 : (C2 != C2) = false := by simp
  have f3 : (C3 != C3) = false := by simp
  have H1 := Lib.hid hC1
  have H2 := Lib.hid hC2
  clear hC1 hC2 hC3
  obtain ⟨qs, hqs⟩ : ∃ qs, dmQ p f g = qs := ⟨_, rfl⟩
  obtain ⟨rs, hrs⟩ : ∃ rs, dmR p f g = rs := ⟨_, rfl⟩
  obtain ⟨gl, hgl⟩ : ∃ gl, g.length = gl := ⟨_, rfl⟩
  have HQS := Lib.hid hqs
  have HRS := Lib.hid hrs
  have HGL := Lib.hid hgl
  rw [hqs] at HQ HQ2 ⊢
  rw [hrs] at HR HR2 ⊢
  rw [hgl] at HG ⊢
  clear hqs hrs hgl
  obtain ⟨rl, hrl⟩ : ∃ rl, rs.length = rl := ⟨_, rfl⟩
  have HRL := Lib.hid hrl
  rw [hrl] at HR HR2 ⊢
  clear hrl
  obtain ⟨mb, hmb⟩ : ∃ mb, modlB p f = mb := ⟨_, rfl⟩
  have HMB := Lib.hid hmb
  have K1 := Lib.hid (IsModular_any (p := p) HF.out)
  clear hmb
  go_wp2_with (go_at_call 27; with_reducible refine (likeInts_same HQ.out HQ2.out).mono ?_)
  rintro _ wz10 ⟨rfl, hbN⟩
  replace HF := Lib.hid (HF.out.step hbN)
  replace HG := Lib.hid (HG.out.step hbN)
  replace HQ := Lib.hid (HQ.out.step hbN)
  replace HR := Lib.hid (HR.out.step hbN)
  replace HQ2 := Lib.hid (HQ2.out.step hbN)
  replace HR2 := Lib.hid (HR2.out.step hbN)
  replace HX := Lib.hid (HX.out.step hbN)
  replace HY := Lib.hid (HY.out.step hbN)
  replace HM := Lib.hid (HM.out.step hbN)
  replace HM2 := Lib.hid (HM2.out.step hbN)
  replace HH := Lib.hid (HH.out.step hbN)
  replace HE := Lib.hid (HE.out.step hbN)
  replace HE2 := Lib.hid (HE2.out.step hbN)
  replace HB := Lib.hid (HB.out.trans (hbN.mono HB.out.size))
  clear hbN
  go_wp2_with (go_at_call 27; with_reducible refine (likeInts_same HR.out HR2.out).mono ?_)
  rintro _ wz11 ⟨rfl, hbN⟩
  replace HF := Lib.hid (HF.out.step hbN)
  replace HG := Lib.hid (HG.out.step hbN)
  replace HQ := Lib.hid (HQ.out.step hbN)
  replace HR := Lib.hid (HR.out.step hbN)
  replace HQ2 := Lib.hid (HQ2.out.step hbN)
  replace HR2 := Lib.hid (HR2.out.step hbN)
  replace HX := Lib.hid (HX.out.step hbN)
  replace HY := Lib.hid (HY.out.step hbN)
  replace HM := Lib.hid (HM.out.step hbN)
  replace HM2 := Lib.hid (HM2.out.step hbN)
  replace HH := Lib.hid (HH.out.step hbN)
  replace HE := Lib.hid (HE.out.step hbN)
  replace HE2 := Lib.hid (HE2.out.step hbN)
  replace HB := Lib.hid (HB.out.trans (hbN.mono HB.out.size))
  clear hbN
  go_wp2_with (go_at_call 27; with_reducible refine (likeInts_same HM.out HM2.out).mono ?_)
  rintro _ wz12 ⟨rfl, hbN⟩
  replace HF := Lib.hid (HF.out.step hbN)
  replace HG := Lib.hid (HG.out.step hbN)
  replace HQ := Lib.hid (HQ.out.step hbN)
  replace HR := Lib.hid (HR.out.step hbN)
  replace HQ2 := Lib.hid (HQ2.out.step hbN)
  replace HR2 := Lib.hid (HR2.out.step hbN)
  replace HX := Lib.hid (HX.out.step hbN)
  replace HY := Lib.hid (HY.out.step hbN)
  replace HM := Lib.hid (HM.out.step hbN)
  replace HM2 := Lib.hid (HM2.out.step hbN)
  replace HH := Lib.hid (HH.out.step hbN)
  replace HE := Lib.hid (HE.out.step hbN)
  replace HE2 := Lib.hid (HE2.out.step hbN)
  replace HB := Lib.hid (HB.out.trans (hbN.mono HB.out.size))
  clear hbN
  go_wp2_with (go_at_call 27; with_reducible refine (likeInts_same HE.out HE2.out).mono ?_)
  rintro _ wz13 ⟨rfl, hbN⟩
  replace HF := Lib.hid (HF.out.step hbN)
  replace HG := Lib.hid (HG.out.step hbN)
  replace HQ := Lib.hid (HQ.out.step hbN)
  replace HR := Lib.hid (HR.out.step hbN)
  replace HQ2 := Lib.hid (HQ2.out.step hbN)
  replace HR2 := Lib.hid (HR2.out.step hbN)
  replace HX := Lib.hid (HX.out.step hbN)
  replace HY := Lib.hid (HY.out.step hbN)
  replace HM := Lib.hid (HM.out.step hbN)
  replace HM2 := Lib.hid (HM2.out.step hbN)
  replace HH := Lib.hid (HH.out.step hbN)
  replace HE := Lib.hid (HE.out.step hbN)
  replace HE2 := Lib.hid (HE2.out.step hbN)
  replace HB := Lib.hid (HB.out.trans (hbN.mono HB.out.size))
  clear hbN
  clear HQ2 HR2 HM2 HE HE2 HH
  clear K1
  have K1 := Lib.hid (IsModular_any (p := p) HF.out)
  rw [HMB.out] at K1
  go_wp2_with (go_at_call 56; with_reducible refine (K1.out).mono ?_)
  rintro _ wz14 ⟨rfl, hbN⟩
  replace HF := Lib.hid (HF.out.step hbN)
  replace HG := Lib.hid (HG.out.step hbN)
  replace HQ := Lib.hid (HQ.out.step hbN)
  replace HR := Lib.hid (HR.out.step hbN)
  replace HX := Lib.hid (HX.out.step hbN)
  replace HY := Lib.hid (HY.out.step hbN)
  replace HM := Lib.hid (HM.out.step hbN)
  replace HB := Lib.hid (HB.out.trans (hbN.mono HB.out.size))
  clear hbN
  have K2 := Lib.hid (sIsModular_any (p := p) HF.out)
  rw [HMB.out] at K2
  have f4 : (mb != mb) = false := by simp
  go_wp2_with (go_at_call 57; with_reducible refine (K2.out).mono ?_)
  rintro _ _ ⟨rfl, rfl⟩
  by_cases h2 : C2 = 0
  · have PM := Lib.hid (mul_ok (H2.out.trans h2))
    subst h2
    have K4 := Lib.hid (multiplyModular.impl_any (p := u) HY.out HX.out)
    rw [PM.out.1, PM.out.2] at K4
    go_wp2_with (go_at_call 51; with_reducible refine (K4.out).mono ?_)
    rintro _ wz15 ⟨v15, rfl, oN, hbN⟩
    obtain ⟨sa15, sc15, rfl, _, _⟩ := reads_nil_eq oN.reads
    replace HF := Lib.hid (HF.out.step hbN)
    replace HG := Lib.hid (HG.out.step hbN)
    replace HQ := Lib.hid (HQ.out.step hbN)
    replace HR := Lib.hid (HR.out.step hbN)
    replace HX := Lib.hid (HX.out.step hbN)
    replace HY := Lib.hid (HY.out.step hbN)
    replace HM := Lib.hid (HM.out.step hbN)
    replace HB := Lib.hid (HB.out.trans (hbN.mono HB.out.size))
    have HZ := Lib.hid oN.reads
    clear oN hbN
    go_wp2_with (go_at_call 27; with_reducible refine (likeInts_same HZ.out HM.out).mono ?_)
    rintro _ wz16 ⟨rfl, hbN⟩
    replace HF := Lib.hid (HF.out.step hbN)
    replace HG := Lib.hid (HG.out.step hbN)
    replace HQ := Lib.hid (HQ.out.step hbN)
    replace HR := Lib.hid (HR.out.step hbN)
    replace HX := Lib.hid (HX.out.step hbN)
    replace HY := Lib.hid (HY.out.step hbN)
    replace HM := Lib.hid (HM.out.step hbN)
    replace HZ := Lib.hid (HZ.out.step hbN)
    replace HB := Lib.hid (HB.out.trans (hbN.mono HB.out.size))
    clear hbN
    clear HZ HM HX HY
    by_cases h1 : C1 = 0
    · have A := Lib.hid (quo_ok (H1.out.trans h1))
      rw [HQS.out, HRS.out] at A
      subst h1
      have K5 := Lib.hid (multiplyModular.impl_any (p := p) HG.out HQ.out)
      rw [A.out.2.1] at K5
      go_wp2_with (go_at_call 51; with_reducible refine (K5.out).mono ?_)
      rintro _ wz17 ⟨v17, rfl, oN, hbN⟩
      obtain ⟨sa17, sc17, rfl, _, _⟩ := reads_nil_eq oN.reads
      replace HF := Lib.hid (HF.out.step hbN)
      replace HG := Lib.hid (HG.out.step hbN)
      replace HQ := Lib.hid (HQ.out.step hbN)
      replace HR := Lib.hid (HR.out.step hbN)
      replace HB := Lib.hid (HB.out.trans (hbN.mono HB.out.size))
      have HS := Lib.hid oN.reads
      clear oN hbN
      obtain ⟨ss, hss⟩ : ∃ ss, multiplyModular.out p g qs = ss := ⟨_, rfl⟩
      rw [hss] at HS A ⊢
      clear hss
      obtain ⟨sl, hsl⟩ : ∃ sl, ss.length = sl := ⟨_, rfl⟩
      have HSL := Lib.hid hsl
      rw [hsl] at HS ⊢
      clear hsl
      have hsl9 : sl ≤ 9 := by have := A.out.2.2.2.2.2.2.1; have := HSL.out; omega
      have hrg : rl < gl := by have := A.out.2.2.2.1; have := HRL.out; have := HGL.out; omega
      have hrgi : (rl : Int) < (gl : Int) := by omega
      have hrl9 : rl ≤ 1099511627776 := by have := HR.out.1; have := HRL.out; omega
      obtain ⟨hp2, hp97⟩ := A.out.2.2.2.2.2.2.2
      have hpz : ¬ p = 0 := by omega
      have IS := Lib.hid A.out.2.2.2.2.1
      have IR := Lib.hid A.out.2.2.2.2.2.1
      have AB := Lib.hid A.out.2.2.1
      clear A
      go_wp2
      obtain ⟨W, hW⟩ : ∃ W : World, W = wz17 := ⟨_, rfl⟩
      have hWs : w.heap.size ≤ wz17.heap.size := HB.out.size
      go_loopw [29, 30] (fun o c wr => ∃ k : Nat, c = .int .i64 (k : Int) ∧ k ≤ max sl rl ∧ Own wr wz17.heap.size o ((sumM p ss rs).take k) ∧ Below wz17.heap.size wz17 wr) (fun _ c _ => max sl rl - (intOf c).toNat)
      case atStart => exact ⟨0, rfl, by omega, by simpa using Own.empty (w := wz17) (Nat.le_refl _), below_box _⟩
      case round =>
        obtain ⟨k, rfl, hk, hown, hbel⟩ := hrel
        have HO := Lib.hid hown
        have HW := Lib.hid hbel
        have hsw := hbel.size
        have HSw := Lib.hid (HS.out.step HW.out)
        have HRw := Lib.hid (HR.out.step HW.out)
        clear hown hbel
        by_cases hlt : k < max sl rl
        · have hlen : ((sumM p ss rs).take k).length + 1 ≤ 1099511627776 := by rw [List.length_take]; omega
          have HN := Lib.hid (sumM_next (p := p) (s := ss) (r := rs) (k := k) (by rw [HSL.out, HRL.out]; exact hlt))
          obtain ⟨is0, is1⟩ := IS.out k
          obtain ⟨ir0, ir1⟩ := IR.out k
          have hm1 : ((k : Int) < max (sl : Int) (rl : Int)) := by omega
          by_cases hks : k < sl
          · obtain ⟨b1, o1, hbo1, c1⟩ := HSw.out.at (k := k) (by rw [HSL.out]; exact hks)
            subst hbo1
            by_cases hkr : k < rl
            · obtain ⟨b2, o2, hbo2, c2⟩ := HRw.out.at (k := k) (by rw [HRL.out]; exact hkr)
              subst hbo2
              obtain ⟨x, hx⟩ : ∃ x, el ss k = x := ⟨_, rfl⟩
              obtain ⟨y, hy⟩ : ∃ y, el rs k = y := ⟨_, rfl⟩
              rw [hx, hy] at HN
              rw [hx] at is0 is1 c1
              rw [hy] at ir0 ir1 c2
              clear hx hy
              go_wp2_with (at_builtin; refine append_one _ rfl _ _ rfl rfl HO.out hlen hsw rfl ?_)
              all_goals
                intro vv w3 hown1 hbel1
                rw [HN.out] at hown1
                go_wp2
                go_roundw
                case rel => exact ⟨k + 1, by go_num, by omega, hown1, HW.out.trans hbel1⟩
                case measure => simp [intOf]; omega
            · obtain ⟨x, hx⟩ : ∃ x, el ss k = x := ⟨_, rfl⟩
              rw [hx, el_out (l := rs) (by rw [HRL.out]; exact hkr), Int.add_zero] at HN
              rw [hx] at is0 is1 c1
              clear hx
              go_wp2_with (at_builtin; refine append_one _ rfl _ _ rfl rfl HO.out hlen hsw rfl ?_)
              all_goals
                intro vv w3 hown1 hbel1
                rw [HN.out] at hown1
                go_wp2
                go_roundw
                case rel => exact ⟨k + 1, by go_num, by omega, hown1, HW.out.trans hbel1⟩
                case measure => simp [intOf]; omega
          · have hkr : k < rl := by omega
            obtain ⟨b2, o2, hbo2, c2⟩ := HRw.out.at (k := k) (by rw [HRL.out]; exact hkr)
            subst hbo2
            obtain ⟨y, hy⟩ : ∃ y, el rs k = y := ⟨_, rfl⟩
            rw [hy, el_out (l := ss) (by rw [HSL.out]; exact hks), Int.zero_add] at HN
            rw [hy] at ir0 ir1 c2
            clear hy
            go_wp2_with (at_builtin; refine append_one _ rfl _ _ rfl rfl HO.out hlen hsw rfl ?_)
            all_goals
              intro vv w3 hown1 hbel1
              rw [HN.out] at hown1
              go_wp2
              go_roundw
              case rel => exact ⟨k + 1, by go_num, by omega, hown1, HW.out.trans hbel1⟩
              case measure => simp [intOf]; omega
        · obtain rfl : k = max sl rl := by omega
          have hm1 : ¬ (((max sl rl : Nat) : Int) < max (sl : Int) (rl : Int)) := by omega
          have HM := Lib.hid (show Reads wr u29 (sumM p ss rs) by have := HO.out.reads; rwa [List.take_of_length_le (by rw [sumM_len, HSL.out, HRL.out]; exact Nat.le_refl _)] at this)
          have HFw := Lib.hid (HF.out.step HW.out)
          have HBw := Lib.hid (HB.out.trans (HW.out.mono HB.out.size))
          have HE := Lib.hid (show trimL (sumM p ss rs) = f from AB.out)
          clear HO AB
          obtain ⟨ta, tc, rfl, ht1, _⟩ := reads_nil_eq HM.out
          generalize sumM p ss rs = M at *
          go_wp2
          all_goals
            go_loop [29] (fun c => ∃ m : Nat, c = .slice ta m tc ∧ m ≤ M.length ∧ Hid (trimN M m = trimN M M.length)) (fun c => lenV c)
            case atStart => exact ⟨_, rfl, Nat.le_refl _, Lib.hid rfl⟩
            case round =>
              obtain ⟨m, rfl, hm, HT⟩ := hrel
              have hmb : M.length ≤ 1099511627776 := HM.out.1
              by_cases h0 : 0 < m
              · obtain ⟨j, rfl⟩ : ∃ j, m = j + 1 := ⟨m - 1, by omega⟩
                obtain ⟨b3, o3, hbo3, c3⟩ := HM.out.at (k := j) (by omega)
                subst hbo3
                by_cases hz : el M j = 0
                · rw [hz] at c3
                  have HN := Lib.hid (show trimN M j = trimN M M.length by rw [← HT.out, trimN_zero hz])
                  clear hz HT
                  go_wp2
                  go_round
                  case rel => exact ⟨j, by first | rfl | (simp; done) | (congr 1; omega), by omega, HN⟩
                  case measure => simp [lenV]
                · have hz' : (el M j == 0) = false := by simpa using hz
                  have HN := Lib.hid (show trimN M M.length = j + 1 by rw [← HT.out, trimN_stop hz])
                  have HT3 := Lib.hid (show Reads wr (.slice (some ⟨b3, o3, none⟩) (j + 1) tc) f by have := HM.out.take (k := j + 1) hm; rwa [show M.take (j + 1) = f by rw [← HE.out, trimL, HN.out]] at this)
                  clear hz HT HN
                  go_wp2_with (go_at_call 27; with_reducible refine (likeInts_same HT3.out HFw.out).mono ?_)
                  first | (intro e wE he hbE; subst he) | rintro e wE ⟨rfl, hbE⟩
                  go_wp2
                  go_ret
                  exact ⟨rfl, HBw.out.trans (hbE.mono HBw.out.size)⟩
              · obtain rfl : m = 0 := by omega
                have HT3 := Lib.hid (show Reads wr (.slice ta 0 tc) f by have := HM.out.take (k := 0) hm; rwa [show M.take 0 = f by rw [← HE.out, trimL, ← HT.out]; rfl] at this)
                clear HT
                go_wp2_with (go_at_call 27; with_reducible refine (likeInts_same HT3.out HFw.out).mono ?_)
                first | (intro e wE he hbE; subst he) | rintro e wE ⟨rfl, hbE⟩
                go_wp2
                go_ret
                exact ⟨rfl, HBw.out.trans (hbE.mono HBw.out.size)⟩
    · have h1b : (C1 != 0) = true := by simpa using h1
      go_wp2
      go_ret
      exact ⟨rfl, HB.out⟩
  · have h2b : (C2 == 0) = false := by simpa using h2
    clear HM HX HY
    by_cases h1 : C1 = 0
    · have A := Lib.hid (quo_ok (H1.out.trans h1))
      rw [HQS.out, HRS.out] at A
      subst h1
      have K5 := Lib.hid (multiplyModular.impl_any (p := p) HG.out HQ.out)
      rw [A.out.2.1] at K5
      go_wp2_with (go_at_call 51; with_reducible refine (K5.out).mono ?_)
      rintro _ wz18 ⟨v18, rfl, oN, hbN⟩
      obtain ⟨sa18, sc18, rfl, _, _⟩ := reads_nil_eq oN.reads
      replace HF := Lib.hid (HF.out.step hbN)
      replace HG := Lib.hid (HG.out.step hbN)
      replace HQ := Lib.hid (HQ.out.step hbN)
      replace HR := Lib.hid (HR.out.step hbN)
      replace HB := Lib.hid (HB.out.trans (hbN.mono HB.out.size))
      have HS := Lib.hid oN.reads
      clear oN hbN
      obtain ⟨ss, hss⟩ : ∃ ss, multiplyModular.out p g qs = ss := ⟨_, rfl⟩
      rw [hss] at HS A ⊢
      clear hss
      obtain ⟨sl, hsl⟩ : ∃ sl, ss.length = sl := ⟨_, rfl⟩
      have HSL := Lib.hid hsl
      rw [hsl] at HS ⊢
      clear hsl
      have hsl9 : sl ≤ 9 := by have := A.out.2.2.2.2.2.2.1; have := HSL.out; omega
      have hrg : rl < gl := by have := A.out.2.2.2.1; have := HRL.out; have := HGL.out; omega
      have hrgi : (rl : Int) < (gl : Int) := by omega
      have hrl9 : rl ≤ 1099511627776 := by have := HR.out.1; have := HRL.out; omega
      obtain ⟨hp2, hp97⟩ := A.out.2.2.2.2.2.2.2
      have hpz : ¬ p = 0 := by omega
      have IS := Lib.hid A.out.2.2.2.2.1
      have IR := Lib.hid A.out.2.2.2.2.2.1
      have AB := Lib.hid A.out.2.2.1
      clear A
      go_wp2
      obtain ⟨W, hW⟩ : ∃ W : World, W = wz18 := ⟨_, rfl⟩
      have hWs : w.heap.size ≤ wz18.heap.size := HB.out.size
      go_loopw [29, 30] (fun o c wr => ∃ k : Nat, c = .int .i64 (k : Int) ∧ k ≤ max sl rl ∧ Own wr wz18.heap.size o ((sumM p ss rs).take k) ∧ Below wz18.heap.size wz18 wr) (fun _ c _ => max sl rl - (intOf c).toNat)
      case atStart => exact ⟨0, rfl, by omega, by simpa using Own.empty (w := wz18) (Nat.le_refl _), below_box _⟩
      case round =>
        obtain ⟨k, rfl, hk, hown, hbel⟩ := hrel
        have HO := Lib.hid hown
        have HW := Lib.hid hbel
        have hsw := hbel.size
        have HSw := Lib.hid (HS.out.step HW.out)
        have HRw := Lib.hid (HR.out.step HW.out)
        clear hown hbel
        by_cases hlt : k < max sl rl
        · have hlen : ((sumM p ss rs).take k).length + 1 ≤ 1099511627776 := by rw [List.length_take]; omega
          have HN := Lib.hid (sumM_next (p := p) (s := ss) (r := rs) (k := k) (by rw [HSL.out, HRL.out]; exact hlt))
          obtain ⟨is0, is1⟩ := IS.out k
          obtain ⟨ir0, ir1⟩ := IR.out k
          have hm1 : ((k : Int) < max (sl : Int) (rl : Int)) := by omega
          by_cases hks : k < sl
          · obtain ⟨b1, o1, hbo1, c1⟩ := HSw.out.at (k := k) (by rw [HSL.out]; exact hks)
            subst hbo1
            by_cases hkr : k < rl
            · obtain ⟨b2, o2, hbo2, c2⟩ := HRw.out.at (k := k) (by rw [HRL.out]; exact hkr)
              subst hbo2
              obtain ⟨x, hx⟩ : ∃ x, el ss k = x := ⟨_, rfl⟩
              obtain ⟨y, hy⟩ : ∃ y, el rs k = y := ⟨_, rfl⟩
              rw [hx, hy] at HN
              rw [hx] at is0 is1 c1
              rw [hy] at ir0 ir1 c2
              clear hx hy
              go_wp2_with (at_builtin; refine append_one _ rfl _ _ rfl rfl HO.out hlen hsw rfl ?_)
              all_goals
                intro vv w3 hown1 hbel1
                rw [HN.out] at hown1
                go_wp2
                go_roundw
                case rel => exact ⟨k + 1, by go_num, by omega, hown1, HW.out.trans hbel1⟩
                case measure => simp [intOf]; omega
            · obtain ⟨x, hx⟩ : ∃ x, el ss k = x := ⟨_, rfl⟩
              rw [hx, el_out (l := rs) (by rw [HRL.out]; exact hkr), Int.add_zero] at HN
              rw [hx] at is0 is1 c1
              clear hx
              go_wp2_with (at_builtin; refine append_one _ rfl _ _ rfl rfl HO.out hlen hsw rfl ?_)
              all_goals
                intro vv w3 hown1 hbel1
                rw [HN.out] at hown1
                go_wp2
                go_roundw
                case rel => exact ⟨k + 1, by go_num, by omega, hown1, HW.out.trans hbel1⟩
                case measure => simp [intOf]; omega
          · have hkr : k < rl := by omega
            obtain ⟨b2, o2, hbo2, c2⟩ := HRw.out.at (k := k) (by rw [HRL.out]; exact hkr)
            subst hbo2
            obtain ⟨y, hy⟩ : ∃ y, el rs k = y := ⟨_, rfl⟩
            rw [hy, el_out (l := ss) (by rw [HSL.out]; exact hks), Int.zero_add] at HN
            rw [hy] at ir0 ir1 c2
            clear hy
            go_wp2_with (at_builtin; refine append_one _ rfl _ _ rfl rfl HO.out hlen hsw rfl ?_)
            all_goals
              intro vv w3 hown1 hbel1
              rw [HN.out] at hown1
              go_wp2
              go_roundw
              case rel => exact ⟨k + 1, by go_num, by omega, hown1, HW.out.trans hbel1⟩
              case measure => simp [intOf]; omega
        · obtain rfl : k = max sl rl := by omega
          have hm1 : ¬ (((max sl rl : Nat) : Int) < max (sl : Int) (rl : Int)) := by omega
          have HM := Lib.hid (show Reads wr u29 (sumM p ss rs) by have := HO.out.reads; rwa [List.take_of_length_le (by rw [sumM_len, HSL.out, HRL.out]; exact Nat.le_refl _)] at this)
          have HFw := Lib.hid (HF.out.step HW.out)
          have HBw := Lib.hid (HB.out.trans (HW.out.mono HB.out.size))
          have HE := Lib.hid (show trimL (sumM p ss rs) = f from AB.out)
          clear HO AB
          obtain ⟨ta, tc, rfl, ht1, _⟩ := reads_nil_eq HM.out
          generalize sumM p ss rs = M at *
          go_wp2
          all_goals
            go_loop [29] (fun c => ∃ m : Nat, c = .slice ta m tc ∧ m ≤ M.length ∧ Hid (trimN M m = trimN M M.length)) (fun c => lenV c)
            case atStart => exact ⟨_, rfl, Nat.le_refl _, Lib.hid rfl⟩
            case round =>
              obtain ⟨m, rfl, hm, HT⟩ := hrel
              have hmb : M.length ≤ 1099511627776 := HM.out.1
              by_cases h0 : 0 < m
              · obtain ⟨j, rfl⟩ : ∃ j, m = j + 1 := ⟨m - 1, by omega⟩
                obtain ⟨b3, o3, hbo3, c3⟩ := HM.out.at (k := j) (by omega)
                subst hbo3
                by_cases hz : el M j = 0
                · rw [hz] at c3
                  have HN := Lib.hid (show trimN M j = trimN M M.length by rw [← HT.out, trimN_zero hz])
                  clear hz HT
                  go_wp2
                  go_round
                  case rel => exact ⟨j, by first | rfl | (simp; done) | (congr 1; omega), by omega, HN⟩
                  case measure => simp [lenV]
                · have hz' : (el M j == 0) = false := by simpa using hz
                  have HN := Lib.hid (show trimN M M.length = j + 1 by rw [← HT.out, trimN_stop hz])
                  have HT3 := Lib.hid (show Reads wr (.slice (some ⟨b3, o3, none⟩) (j + 1) tc) f by have := HM.out.take (k := j + 1) hm; rwa [show M.take (j + 1) = f by rw [← HE.out, trimL, HN.out]] at this)
                  clear hz HT HN
                  go_wp2_with (go_at_call 27; with_reducible refine (likeInts_same HT3.out HFw.out).mono ?_)
                  first | (intro e wE he hbE; subst he) | rintro e wE ⟨rfl, hbE⟩
                  go_wp2
                  go_ret
                  exact ⟨rfl, HBw.out.trans (hbE.mono HBw.out.size)⟩
              · obtain rfl : m = 0 := by omega
                have HT3 := Lib.hid (show Reads wr (.slice ta 0 tc) f by have := HM.out.take (k := 0) hm; rwa [show M.take 0 = f by rw [← HE.out, trimL, ← HT.out]; rfl] at this)
                clear HT
                go_wp2_with (go_at_call 27; with_reducible refine (likeInts_same HT3.out HFw.out).mono ?_)
                first | (intro e wE he hbE; subst he) | rintro e wE ⟨rfl, hbE⟩
                go_wp2
                go_ret
                exact ⟨rfl, HBw.out.trans (hbE.mono HBw.out.size)⟩
    · have h1b : (C1 != 0) = true := by simpa using h1
      go_wp2
      go_ret
      exact ⟨rfl, HB.out⟩

theorem own : ownKnob Try.prog.godebug = none := by kernel_rfl
theorem laidOut : laidOutB Try.prog = true := by kernel_rfl

set_option maxRecDepth 100000 in
theorem lifted (os : Os) (started : os.Started) (H : Type) (enc : TypeId × Value → H) :
    ReturnsInHanded {} Try.checked os 10 .any (Rows.fnModularQuotientsSpec.pre6 enc Try.prog Try.f10 Rows.fnModularQuotientsRow.domain false) (Rows.fnModularQuotientsSpec.post enc Try.prog Try.f10 false true false false) := by
  refine returnsInHanded_of_change (C := Try.checked) own started (by kernel_rfl) Try.func10
    (ChangeSpec.witness6 (enc := enc) (C := Try.checked) false ⟨#[], #[.slice none 0 0], []⟩ 8 (by kernel_rfl) (by kernel_rfl) (by kernel_rfl) (by kernel_rfl)) ?_
  intro W base args ds gs before hval0 hW hcnd _
  have hval : ∀ (j : Nat) t v, Try.f10.params[j]? = some t → args[j]? = some v → Value.okWide Try.prog W .any base t v := hval0
  have hW' := hW
  obtain ⟨p, q, hA0, hV, rfl, hfz, hnd⟩ := hW
  have hA : DataW.TrodAll enc Try.prog W 0 (fun _ => true) true Try.f10.params.toList args.toList ds p := hA0
  rw [Try.params10] at hA hval
  obtain ⟨v0, vs0, d0, ds0, p0, q0, hargs, rfl, rfl, h0, r0⟩ := trodAll_cons hA
  obtain ⟨rfl, rfl, rfl⟩ := trodAll_nil r0
  obtain rfl : args = #[v0] := by cases args; simp_all
  obtain ⟨rfl, rfl⟩ := trodVars_none hV
  have k0 := h0
  have lt0 : ∀ x ∈ p0, x.block < W.heap.size := by obtain ⟨m, hm⟩ := k0; exact DataW.trod_lt m _ _ _ hm
  obtain ⟨a0, len0, cap0, rfl⟩ := okWide_slice Try.underlying28 (hval 0 28 v0 rfl rfl)
  obtain ⟨z0, w0⟩ : ∃ zs, IsRow .u8 W a0 len0 cap0 zs := by
    obtain ⟨fuel, hf⟩ := h0
    rcases open_ints Try.underlying28 Try.underlying5 (by kernel_rfl) hf with ⟨hcs, _⟩ | ⟨x, l, c, zs, hcs, _, hl, hm, hz, _, hcell, hwz⟩
    · simp [Value.cells] at hcs
      obtain ⟨rfl, rfl, rfl⟩ := hcs
      exact ⟨[], .inl ⟨rfl, rfl, rfl, rfl⟩⟩
    · simp [Value.cells] at hcs
      obtain ⟨rfl, rfl, rfl⟩ := hcs
      exact ⟨zs, .inr ⟨_, rfl, hl, hm, by simpa using hz, hcell, hwz⟩⟩
  clear hA0 hval0
  refine (walk a0 len0 cap0 z0 W w0).mono fun e W' ⟨he, bel⟩ => ?_
  subst he
  exact ⟨_, rfl, _, _, _, [], _, [], hW', trodAll_mk1 (shut_bool Try.underlying4 _), (trodAll_cons_mk (Below.trod laidOut (by kernel_rfl) (of_decide_eq_true (by kernel_rfl)) k0 bel lt0) trodAll_mk0), rfl, bel.frame _, fun h => by cases h⟩

theorem over : Rows.fnModularQuotientsRow.holds Try.pinned (OpenSpec.ofChange Rows.fnModularQuotientsSpec) :=
  OpenClaim.holds_of_wide 10 Try.f10 rfl rfl rfl rfl rfl rfl rfl ⟨rfl, rfl, rfl, rfl, rfl⟩ rfl rfl rfl rfl rfl (by kernel_rfl) Try.func10 (by kernel_rfl)
    (of_decide_eq_true (by kernel_rfl)) (by unfold Func.isWrapper; first | (rw [if_pos (by decide +kernel)]; kernel_rfl) | (rw [if_neg (by decide +kernel)]; exact ⟨rfl, rfl⟩))
    (fun os started H enc _ => lifted os started H enc)

theorem proved : Rows.FnModularQuotientsSaid := over
#print axioms proved
end Go.Proofs.Ytlndfjplhfgicaa.modularQuotients
