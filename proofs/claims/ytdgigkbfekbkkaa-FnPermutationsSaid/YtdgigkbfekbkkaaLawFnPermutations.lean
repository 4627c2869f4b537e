/- 'laws.FnPermutations' returns true for all arguments: the sign of a product is the product of the signs, and a permutation is recovered from its rank. Conditions: none. -/
import Derived.Test.YtdgigkbfekbkkaaRows
import Derived.WalkKit
import Derived.ProofKit
import Derived.OpenShut
import Derived.ShutString
import Derived.ChangeOld
import Derived.Below
import Derived.Lib.SmallJoins
import Derived.Test.YtdgigkbfekbkkaaUb
import Derived.Test.YtdgigkbfekbkkaaNq
import Derived.Test.YtdgigkbfekbkkaaNi
namespace Go.Proofs.Ytdgigkbfekbkkaa.permutations
open Go.ChangeShapes Go.WideShapes Go.ChangeAt Go.RowKit
open Go.ChangeMaps (open_string shut_string)
set_option linter.unusedVariables false
set_option linter.unusedSimpArgs false

theorem prod_ok {xs ys : List Int} (h : productOfTwo.code xs ys = 0) : permB xs = true ∧ permB ys = true ∧ xs.length = ys.length ∧ productOfTwo.out xs ys = prodL xs ys := by
  unfold productOfTwo.code at h
  unfold productOfTwo.out
  by_cases h1 : permB xs = true
  · rw [if_pos h1] at h ⊢
    by_cases h2 : permB ys = true
    · rw [if_pos h2] at h ⊢
      by_cases h3 : xs.length = ys.length
      · rw [if_pos h3]; exact ⟨h1, h2, h3, rfl⟩
      · rw [if_neg h3] at h; cases h
    · rw [if_neg h2] at h; cases h
  · rw [if_neg h1] at h; cases h
theorem with_ok {n r : Int} (h : permutationWith.code n r = 0) : rankOf.code (permutationWith.out n r) = 0 ∧ rankOf.val (permutationWith.out n r) = r := by
  unfold permutationWith.code at h
  unfold permutationWith.out
  by_cases h1 : inB n 1 6 = true
  · rw [if_pos h1] at h ⊢
    by_cases h2 : inB r 0 (factZ n - 1) = true
    · rw [if_pos h2]
      have b1 := inB_iff.1 h1
      have b2 := inB_iff.1 h2
      have e : ((n.toNat : Nat) : Int) = n := Int.toNat_of_nonneg (by omega)
      have := with_rank (n := n.toNat) (r := r) (by omega) (by omega) b2.1 (by rw [e]; omega)
      unfold rankOf.code rankOf.val
      rw [if_pos this.1, if_pos this.1]
      exact ⟨rfl, this.2⟩
    · rw [if_neg h2] at h; cases h
  · rw [if_neg h1] at h; cases h
theorem inv_ok {zs : List Int} (h : permB zs = true) : productOfTwo.code zs (inversePermutation.out zs) = 0 ∧ rankOf.code (productOfTwo.out zs (inversePermutation.out zs)) = 0 ∧ rankOf.val (productOfTwo.out zs (inversePermutation.out zs)) = 0 := by
  obtain ⟨h1, h2, h3⟩ := inv_rank h
  have hl : zs.length = (invL zs).length := (invL_len zs).symm
  unfold inversePermutation.out productOfTwo.code productOfTwo.out rankOf.code rankOf.val
  rw [if_pos h, if_pos h, if_pos h1, if_pos hl, if_pos h, if_pos h1, if_pos hl, if_pos h2, if_pos h2]
  exact ⟨rfl, rfl, h3⟩
theorem sgn_cases (n : Int) : signV n = 1 ∨ signV n = -1 := by unfold signV; split; exact .inl rfl; exact .inr rfl
theorem sign_ok {xs ys : List Int} (h : productOfTwo.code xs ys = 0) : signOf.code xs = 0 ∧ signOf.code ys = 0 ∧ signOf.code (productOfTwo.out xs ys) = 0 ∧ signOf.val (productOfTwo.out xs ys) = signOf.val xs * signOf.val ys ∧ (signOf.val xs = 1 ∨ signOf.val xs = -1) ∧ (signOf.val ys = 1 ∨ signOf.val ys = -1) := by
  obtain ⟨h1, h2, h3, h4⟩ := prod_ok h
  obtain ⟨h5, h6⟩ := sign_mul h1 h2 h3
  rw [h4]
  unfold signOf.code signOf.val
  rw [if_pos h1, if_pos h2, if_pos h5, if_pos h5, if_pos h1, if_pos h2]
  exact ⟨rfl, rfl, rfl, h6, sgn_cases _, sgn_cases _⟩

set_option maxRecDepth 100000 in
set_option maxHeartbeats 16000000 in
theorem walk (a0 : Option Addr) (len0 cap0 : Nat) (z0 : List Int) (w : World) (ha0 : IsRow .u8 w a0 len0 cap0 z0) :
    Calls Try.prog 11 #[.slice a0 len0 cap0] w fun e w' => e = .returned (.bool true) ∧ Below w.heap.size w w' := by
  by_cases hbig : len0 ≤ 4096
  case neg =>
    go_enter Try.func11, Try.ntmps11
    go_wp2_with (go_at_call 35; with_reducible refine (big_yes (by omega) ha0.max).mono ?_)
    rintro _ _ ⟨rfl, rfl⟩
    go_wp2
    go_ret
    exact ⟨rfl, Below.refl _ _⟩
  obtain ⟨Z, hZ, hBs⟩ := ha0.bytes (by omega)
  subst hZ
  have HBs := Lib.hid hBs
  clear hBs ha0
  go_enter Try.func11, Try.ntmps11
  go_wp2_with (go_at_call 35; with_reducible refine (big_no hbig).mono ?_)
  rintro _ _ ⟨rfl, rfl⟩
  go_wp2_with (go_at_call 36; with_reducible refine (DrawProductOfTwo_any HBs.out).mono ?_)
  rintro _ w1 ⟨xs, ys, v1, u1, rfl, o1, p1, hb1⟩
  have HX := Lib.hid o1.reads
  have HY := Lib.hid p1.reads
  have HB := Lib.hid hb1
  clear o1 p1 hb1
  go_wp2_with (go_at_call 23; with_reducible refine (productOfTwo.impl_any HX.out HY.out).mono ?_)
  rintro _ w2 ⟨P, rfl, o2, hb2⟩
  replace HX := Lib.hid (HX.out.step hb2)
  replace HY := Lib.hid (HY.out.step hb2)
  replace HB := Lib.hid (HB.out.trans (hb2.mono HB.out.size))
  have HP := Lib.hid o2.reads
  clear o2 hb2
  go_wp2_with (go_at_call 22; with_reducible refine (productOfTwo.spec_any HX.out HY.out).mono ?_)
  rintro _ w3 ⟨M, rfl, o3, hb3⟩
  replace HX := Lib.hid (HX.out.step hb3)
  replace HY := Lib.hid (HY.out.step hb3)
  replace HP := Lib.hid (HP.out.step hb3)
  replace HB := Lib.hid (HB.out.trans (hb3.mono HB.out.size))
  have HM := Lib.hid o3.reads
  clear o3 hb3
  have HBs3 := Lib.hid (HBs.out.next HB.out HB.out.size)
  go_wp2_with (go_at_call 37; with_reducible refine (DrawPermutationWith_any HBs3.out).mono ?_)
  rintro _ w4 ⟨n, r, rfl, hn, hr, hb4⟩
  replace HX := Lib.hid (HX.out.step hb4)
  replace HY := Lib.hid (HY.out.step hb4)
  replace HP := Lib.hid (HP.out.step hb4)
  replace HM := Lib.hid (HM.out.step hb4)
  replace HB := Lib.hid (HB.out.trans (hb4.mono HB.out.size))
  clear hb4
  clear HBs3
  go_wp2_with (go_at_call 25; with_reducible refine (permutationWith.impl_any).mono ?_)
  rintro _ w5 ⟨W, rfl, o5, hb5⟩
  replace HX := Lib.hid (HX.out.step hb5)
  replace HY := Lib.hid (HY.out.step hb5)
  replace HP := Lib.hid (HP.out.step hb5)
  replace HM := Lib.hid (HM.out.step hb5)
  replace HB := Lib.hid (HB.out.trans (hb5.mono HB.out.size))
  have HW := Lib.hid o5.reads
  clear o5 hb5
  go_wp2_with (go_at_call 24; with_reducible refine (permutationWith.spec_any).mono ?_)
  rintro _ w6 ⟨N, rfl, o6, hb6⟩
  replace HX := Lib.hid (HX.out.step hb6)
  replace HY := Lib.hid (HY.out.step hb6)
  replace HP := Lib.hid (HP.out.step hb6)
  replace HM := Lib.hid (HM.out.step hb6)
  replace HW := Lib.hid (HW.out.step hb6)
  replace HB := Lib.hid (HB.out.trans (hb6.mono HB.out.size))
  have HN := Lib.hid o6.reads
  clear o6 hb6
  have HBs6 := Lib.hid (HBs.out.next HB.out HB.out.size)
  go_wp2_with (go_at_call 38; with_reducible refine (DrawInversePermutation_any HBs6.out).mono ?_)
  rintro _ w7 ⟨cs, c, rfl, o7, hb7⟩
  replace HX := Lib.hid (HX.out.step hb7)
  replace HY := Lib.hid (HY.out.step hb7)
  replace HP := Lib.hid (HP.out.step hb7)
  replace HM := Lib.hid (HM.out.step hb7)
  replace HW := Lib.hid (HW.out.step hb7)
  replace HN := Lib.hid (HN.out.step hb7)
  replace HB := Lib.hid (HB.out.trans (hb7.mono HB.out.size))
  have HC := Lib.hid o7.reads
  clear o7 hb7 HBs6
  go_wp2_with (go_at_call 19; with_reducible refine (inversePermutation.impl_any HC.out).mono ?_)
  rintro _ w8 ⟨I, rfl, o8, hb8⟩
  replace HX := Lib.hid (HX.out.step hb8)
  replace HY := Lib.hid (HY.out.step hb8)
  replace HP := Lib.hid (HP.out.step hb8)
  replace HM := Lib.hid (HM.out.step hb8)
  replace HW := Lib.hid (HW.out.step hb8)
  replace HN := Lib.hid (HN.out.step hb8)
  replace HC := Lib.hid (HC.out.step hb8)
  replace HB := Lib.hid (HB.out.trans (hb8.mono HB.out.size))
  have HI := Lib.hid o8.reads
  clear o8 hb8
  go_wp2_with (go_at_call 18; with_reducible refine (inversePermutation.spec_any HC.out).mono ?_)
  rintro _ w9 ⟨J, rfl, o9, hb9⟩
  replace HX := Lib.hid (HX.out.step hb9)
  replace HY := Lib.hid (HY.out.step hb9)
  replace HP := Lib.hid (HP.out.step hb9)
  replace HM := Lib.hid (HM.out.step hb9)
  replace HW := Lib.hid (HW.out.step hb9)
  replace HN := Lib.hid (HN.out.step hb9)
  replace HC := Lib.hid (HC.out.step hb9)
  replace HI := Lib.hid (HI.out.step hb9)
  replace HB := Lib.hid (HB.out.trans (hb9.mono HB.out.size))
  have HJ := Lib.hid o9.reads
  clear o9 hb9
  obtain ⟨C1, hC1⟩ : ∃ C, productOfTwo.code xs ys = C := ⟨_, rfl⟩
  obtain ⟨C2, hC2⟩ : ∃ C, permutationWith.code n r = C := ⟨_, rfl⟩
  obtain ⟨C3, hC3⟩ : ∃ C, inversePermutation.code cs = C := ⟨_, rfl⟩
  rw [hC1, hC2, hC3]
  have f1 : (C1 != C1) = false := by simp
  have f2 : (C2 != C2) = false := by simp
  have f3 : (C3 != C3) = false := by simp
  have H1 := Lib.hid hC1
  have H2 := Lib.hid hC2
  clear hC1 hC2
  go_wp2_with (go_at_call 39; with_reducible refine (likeInts_same HP.out HM.out).mono ?_)
  rintro _ wA ⟨rfl, hbA⟩
  replace HX := Lib.hid (HX.out.step hbA)
  replace HY := Lib.hid (HY.out.step hbA)
  replace HP := Lib.hid (HP.out.step hbA)
  replace HM := Lib.hid (HM.out.step hbA)
  replace HW := Lib.hid (HW.out.step hbA)
  replace HN := Lib.hid (HN.out.step hbA)
  replace HC := Lib.hid (HC.out.step hbA)
  replace HI := Lib.hid (HI.out.step hbA)
  replace HJ := Lib.hid (HJ.out.step hbA)
  replace HB := Lib.hid (HB.out.trans (hbA.mono HB.out.size))
  clear hbA
  go_wp2_with (go_at_call 39; with_reducible refine (likeInts_same HW.out HN.out).mono ?_)
  rintro _ wB ⟨rfl, hbB⟩
  replace HX := Lib.hid (HX.out.step hbB)
  replace HY := Lib.hid (HY.out.step hbB)
  replace HP := Lib.hid (HP.out.step hbB)
  replace HM := Lib.hid (HM.out.step hbB)
  replace HW := Lib.hid (HW.out.step hbB)
  replace HN := Lib.hid (HN.out.step hbB)
  replace HC := Lib.hid (HC.out.step hbB)
  replace HI := Lib.hid (HI.out.step hbB)
  replace HJ := Lib.hid (HJ.out.step hbB)
  replace HB := Lib.hid (HB.out.trans (hbB.mono HB.out.size))
  clear hbB
  go_wp2_with (go_at_call 39; with_reducible refine (likeInts_same HI.out HJ.out).mono ?_)
  rintro _ wC ⟨rfl, hbC⟩
  replace HX := Lib.hid (HX.out.step hbC)
  replace HY := Lib.hid (HY.out.step hbC)
  replace HP := Lib.hid (HP.out.step hbC)
  replace HM := Lib.hid (HM.out.step hbC)
  replace HW := Lib.hid (HW.out.step hbC)
  replace HN := Lib.hid (HN.out.step hbC)
  replace HC := Lib.hid (HC.out.step hbC)
  replace HI := Lib.hid (HI.out.step hbC)
  replace HJ := Lib.hid (HJ.out.step hbC)
  replace HB := Lib.hid (HB.out.trans (hbC.mono HB.out.size))
  clear hbC
  clear HM HN HJ
  rcases Bool.eq_false_or_eq_true (permB cs) with hp | hp
  · have HQ := Lib.hid hp
    have hz : C3 = 0 := by rw [← hC3]; unfold inversePermutation.code; rw [if_pos hp]
    have K3 := Lib.hid (inv_ok hp)
    clear hC3 hp
    subst hz
    go_wp2_with (go_at_call 14; with_reducible refine (calls_bool (IsPermutation_any HC.out) HQ.out).mono ?_)
    rintro _ _ ⟨rfl, rfl⟩
    by_cases h2 : C2 = 0
    · have K2 := Lib.hid (rankOf.impl_any HW.out)
      rw [(with_ok (H2.out.trans h2)).1, (with_ok (H2.out.trans h2)).2] at K2
      subst h2
      by_cases h1 : C1 = 0
      · have K1 := Lib.hid (sign_ok (H1.out.trans h1))
        subst h1
        go_wp2_with (go_at_call 17; with_reducible refine (K2.out).mono ?_)
        rintro _ _ ⟨rfl, rfl⟩
        go_wp2_with (go_at_call 23; with_reducible refine (productOfTwo.impl_any HC.out HI.out).mono ?_)
        rintro _ wD ⟨E, rfl, oD, hbD⟩
        replace HX := Lib.hid (HX.out.step hbD)
        replace HY := Lib.hid (HY.out.step hbD)
        replace HP := Lib.hid (HP.out.step hbD)
        replace HW := Lib.hid (HW.out.step hbD)
        replace HC := Lib.hid (HC.out.step hbD)
        replace HI := Lib.hid (HI.out.step hbD)
        replace HB := Lib.hid (HB.out.trans (hbD.mono HB.out.size))
        have HE := Lib.hid oD.reads
        clear oD hbD
        replace HE := Lib.hid HE.out
        have K4 := Lib.hid (rankOf.impl_any HE.out)
        rw [K3.out.2.1, K3.out.2.2] at K4
        rw [K3.out.1]
        go_wp2_with (go_at_call 17; with_reducible refine (K4.out).mono ?_)
        rintro _ _ ⟨rfl, rfl⟩
        have S1 := Lib.hid (signOf.impl_any HX.out)
        rw [K1.out.1] at S1
        go_wp2_with (go_at_call 27; with_reducible refine (S1.out).mono ?_)
        rintro _ wF ⟨rfl, hbF⟩
        replace HX := Lib.hid (HX.out.step hbF)
        replace HY := Lib.hid (HY.out.step hbF)
        replace HP := Lib.hid (HP.out.step hbF)
        replace HW := Lib.hid (HW.out.step hbF)
        replace HC := Lib.hid (HC.out.step hbF)
        replace HI := Lib.hid (HI.out.step hbF)
        replace HE := Lib.hid (HE.out.step hbF)
        replace HB := Lib.hid (HB.out.trans (hbF.mono HB.out.size))
        clear hbF
        have S2 := Lib.hid (signOf.impl_any HY.out)
        rw [K1.out.2.1] at S2
        go_wp2_with (go_at_call 27; with_reducible refine (S2.out).mono ?_)
        rintro _ wG ⟨rfl, hbG⟩
        replace HX := Lib.hid (HX.out.step hbG)
        replace HY := Lib.hid (HY.out.step hbG)
        replace HP := Lib.hid (HP.out.step hbG)
        replace HW := Lib.hid (HW.out.step hbG)
        replace HC := Lib.hid (HC.out.step hbG)
        replace HI := Lib.hid (HI.out.step hbG)
        replace HE := Lib.hid (HE.out.step hbG)
        replace HB := Lib.hid (HB.out.trans (hbG.mono HB.out.size))
        clear hbG
        have S3 := Lib.hid (signOf.impl_any HP.out)
        rw [K1.out.2.2.1, K1.out.2.2.2.1] at S3
        obtain ⟨X, hX⟩ : ∃ X, signOf.val xs = X := ⟨_, rfl⟩
        obtain ⟨Y, hY⟩ : ∃ Y, signOf.val ys = Y := ⟨_, rfl⟩
        have hx := K1.out.2.2.2.2.1
        have hy := K1.out.2.2.2.2.2
        rw [hX] at hx S3
        rw [hY] at hy S3
        rw [hX, hY]
        rcases hx with rfl | rfl <;> rcases hy with rfl | rfl
        all_goals
          go_wp2_with (go_at_call 27; with_reducible refine (S3.out).mono ?_)
          rintro _ wH ⟨rfl, hbH⟩
          replace HX := Lib.hid (HX.out.step hbH)
          replace HY := Lib.hid (HY.out.step hbH)
          replace HP := Lib.hid (HP.out.step hbH)
          replace HW := Lib.hid (HW.out.step hbH)
          replace HC := Lib.hid (HC.out.step hbH)
          replace HI := Lib.hid (HI.out.step hbH)
          replace HE := Lib.hid (HE.out.step hbH)
          replace HB := Lib.hid (HB.out.trans (hbH.mono HB.out.size))
          clear hbH
          go_wp2
          go_ret
          exact ⟨rfl, HB.out⟩
      · have h1b : (C1 != 0) = true := by simpa using h1
        go_wp2_with (go_at_call 17; with_reducible refine (K2.out).mono ?_)
        rintro _ _ ⟨rfl, rfl⟩
        go_wp2_with (go_at_call 23; with_reducible refine (productOfTwo.impl_any HC.out HI.out).mono ?_)
        rintro _ wD ⟨E, rfl, oD, hbD⟩
        replace HX := Lib.hid (HX.out.step hbD)
        replace HY := Lib.hid (HY.out.step hbD)
        replace HP := Lib.hid (HP.out.step hbD)
        replace HW := Lib.hid (HW.out.step hbD)
        replace HC := Lib.hid (HC.out.step hbD)
        replace HI := Lib.hid (HI.out.step hbD)
        replace HB := Lib.hid (HB.out.trans (hbD.mono HB.out.size))
        have HE := Lib.hid oD.reads
        clear oD hbD
        replace HE := Lib.hid HE.out
        have K4 := Lib.hid (rankOf.impl_any HE.out)
        rw [K3.out.2.1, K3.out.2.2] at K4
        rw [K3.out.1]
        go_wp2_with (go_at_call 17; with_reducible refine (K4.out).mono ?_)
        rintro _ _ ⟨rfl, rfl⟩
        go_wp2
        go_ret
        exact ⟨rfl, HB.out⟩
    · have h2b : (C2 == 0) = false := by simpa using h2
      by_cases h1 : C1 = 0
      · have K1 := Lib.hid (sign_ok (H1.out.trans h1))
        subst h1
        go_wp2_with (go_at_call 23; with_reducible refine (productOfTwo.impl_any HC.out HI.out).mono ?_)
        rintro _ wD ⟨E, rfl, oD, hbD⟩
        replace HX := Lib.hid (HX.out.step hbD)
        replace HY := Lib.hid (HY.out.step hbD)
        replace HP := Lib.hid (HP.out.step hbD)
        replace HW := Lib.hid (HW.out.step hbD)
        replace HC := Lib.hid (HC.out.step hbD)
        replace HI := Lib.hid (HI.out.step hbD)
        replace HB := Lib.hid (HB.out.trans (hbD.mono HB.out.size))
        have HE := Lib.hid oD.reads
        clear oD hbD
        replace HE := Lib.hid HE.out
        have K4 := Lib.hid (rankOf.impl_any HE.out)
        rw [K3.out.2.1, K3.out.2.2] at K4
        rw [K3.out.1]
        go_wp2_with (go_at_call 17; with_reducible refine (K4.out).mono ?_)
        rintro _ _ ⟨rfl, rfl⟩
        have S1 := Lib.hid (signOf.impl_any HX.out)
        rw [K1.out.1] at S1
        go_wp2_with (go_at_call 27; with_reducible refine (S1.out).mono ?_)
        rintro _ wF ⟨rfl, hbF⟩
        replace HX := Lib.hid (HX.out.step hbF)
        replace HY := Lib.hid (HY.out.step hbF)
        replace HP := Lib.hid (HP.out.step hbF)
        replace HW := Lib.hid (HW.out.step hbF)
        replace HC := Lib.hid (HC.out.step hbF)
        replace HI := Lib.hid (HI.out.step hbF)
        replace HE := Lib.hid (HE.out.step hbF)
        replace HB := Lib.hid (HB.out.trans (hbF.mono HB.out.size))
        clear hbF
        have S2 := Lib.hid (signOf.impl_any HY.out)
        rw [K1.out.2.1] at S2
        go_wp2_with (go_at_call 27; with_reducible refine (S2.out).mono ?_)
        rintro _ wG ⟨rfl, hbG⟩
        replace HX := Lib.hid (HX.out.step hbG)
        replace HY := Lib.hid (HY.out.step hbG)
        replace HP := Lib.hid (HP.out.step hbG)
        replace HW := Lib.hid (HW.out.step hbG)
        replace HC := Lib.hid (HC.out.step hbG)
        replace HI := Lib.hid (HI.out.step hbG)
        replace HE := Lib.hid (HE.out.step hbG)
        replace HB := Lib.hid (HB.out.trans (hbG.mono HB.out.size))
        clear hbG
        have S3 := Lib.hid (signOf.impl_any HP.out)
        rw [K1.out.2.2.1, K1.out.2.2.2.1] at S3
        obtain ⟨X, hX⟩ : ∃ X, signOf.val xs = X := ⟨_, rfl⟩
        obtain ⟨Y, hY⟩ : ∃ Y, signOf.val ys = Y := ⟨_, rfl⟩
        have hx := K1.out.2.2.2.2.1
        have hy := K1.out.2.2.2.2.2
        rw [hX] at hx S3
        rw [hY] at hy S3
        rw [hX, hY]
        rcases hx with rfl | rfl <;> rcases hy with rfl | rfl
        all_goals
          go_wp2_with (go_at_call 27; with_reducible refine (S3.out).mono ?_)
          rintro _ wH ⟨rfl, hbH⟩
          replace HX := Lib.hid (HX.out.step hbH)
          replace HY := Lib.hid (HY.out.step hbH)
          replace HP := Lib.hid (HP.out.step hbH)
          replace HW := Lib.hid (HW.out.step hbH)
          replace HC := Lib.hid (HC.out.step hbH)
          replace HI := Lib.hid (HI.out.step hbH)
          replace HE := Lib.hid (HE.out.step hbH)
          replace HB := Lib.hid (HB.out.trans (hbH.mono HB.out.size))
          clear hbH
          go_wp2
          go_ret
          exact ⟨rfl, HB.out⟩
      · have h1b : (C1 != 0) = true := by simpa using h1
        go_wp2_with (go_at_call 23; with_reducible refine (productOfTwo.impl_any HC.out HI.out).mono ?_)
        rintro _ wD ⟨E, rfl, oD, hbD⟩
        replace HX := Lib.hid (HX.out.step hbD)
        replace HY := Lib.hid (HY.out.step hbD)
        replace HP := Lib.hid (HP.out.step hbD)
        replace HW := Lib.hid (HW.out.step hbD)
        replace HC := Lib.hid (HC.out.step hbD)
        replace HI := Lib.hid (HI.out.step hbD)
        replace HB := Lib.hid (HB.out.trans (hbD.mono HB.out.size))
        have HE := Lib.hid oD.reads
        clear oD hbD
        replace HE := Lib.hid HE.out
        have K4 := Lib.hid (rankOf.impl_any HE.out)
        rw [K3.out.2.1, K3.out.2.2] at K4
        rw [K3.out.1]
        go_wp2_with (go_at_call 17; with_reducible refine (K4.out).mono ?_)
        rintro _ _ ⟨rfl, rfl⟩
        go_wp2
        go_ret
        exact ⟨rfl, HB.out⟩
  · have HQ := Lib.hid hp
    have hz : C3 = 1 := by rw [← hC3]; unfold inversePermutation.code; rw [if_neg (by rw [hp]; simp)]
    clear hC3 hp
    subst hz
    go_wp2_with (go_at_call 14; with_reducible refine (calls_bool (IsPermutation_any HC.out) HQ.out).mono ?_)
    rintro _ _ ⟨rfl, rfl⟩
    by_cases h2 : C2 = 0
    · have K2 := Lib.hid (rankOf.impl_any HW.out)
      rw [(with_ok (H2.out.trans h2)).1, (with_ok (H2.out.trans h2)).2] at K2
      subst h2
      by_cases h1 : C1 = 0
      · have K1 := Lib.hid (sign_ok (H1.out.trans h1))
        subst h1
        go_wp2_with (go_at_call 17; with_reducible refine (K2.out).mono ?_)
        rintro _ _ ⟨rfl, rfl⟩
        have S1 := Lib.hid (signOf.impl_any HX.out)
        rw [K1.out.1] at S1
        go_wp2_with (go_at_call 27; with_reducible refine (S1.out).mono ?_)
        rintro _ wF ⟨rfl, hbF⟩
        replace HX := Lib.hid (HX.out.step hbF)
        replace HY := Lib.hid (HY.out.step hbF)
        replace HP := Lib.hid (HP.out.step hbF)
        replace HW := Lib.hid (HW.out.step hbF)
        replace HC := Lib.hid (HC.out.step hbF)
        replace HI := Lib.hid (HI.out.step hbF)
        replace HB := Lib.hid (HB.out.trans (hbF.mono HB.out.size))
        clear hbF
        have S2 := Lib.hid (signOf.impl_any HY.out)
        rw [K1.out.2.1] at S2
        go_wp2_with (go_at_call 27; with_reducible refine (S2.out).mono ?_)
        rintro _ wG ⟨rfl, hbG⟩
        replace HX := Lib.hid (HX.out.step hbG)
        replace HY := Lib.hid (HY.out.step hbG)
        replace HP := Lib.hid (HP.out.step hbG)
        replace HW := Lib.hid (HW.out.step hbG)
        replace HC := Lib.hid (HC.out.step hbG)
        replace HI := Lib.hid (HI.out.step hbG)
        replace HB := Lib.hid (HB.out.trans (hbG.mono HB.out.size))
        clear hbG
        have S3 := Lib.hid (signOf.impl_any HP.out)
        rw [K1.out.2.2.1, K1.out.2.2.2.1] at S3
        obtain ⟨X, hX⟩ : ∃ X, signOf.val xs = X := ⟨_, rfl⟩
        obtain ⟨Y, hY⟩ : ∃ Y, signOf.val ys = Y := ⟨_, rfl⟩
        have hx := K1.out.2.2.2.2.1
        have hy := K1.out.2.2.2.2.2
        rw [hX] at hx S3
        rw [hY] at hy S3
        rw [hX, hY]
        rcases hx with rfl | rfl <;> rcases hy with rfl | rfl
        all_goals
          go_wp2_with (go_at_call 27; with_reducible refine (S3.out).mono ?_)
          rintro _ wH ⟨rfl, hbH⟩
          replace HX := Lib.hid (HX.out.step hbH)
          replace HY := Lib.hid (HY.out.step hbH)
          replace HP := Lib.hid (HP.out.step hbH)
          replace HW := Lib.hid (HW.out.step hbH)
          replace HC := Lib.hid (HC.out.step hbH)
          replace HI := Lib.hid (HI.out.step hbH)
          replace HB := Lib.hid (HB.out.trans (hbH.mono HB.out.size))
          clear hbH
          go_wp2
          go_ret
          exact ⟨rfl, HB.out⟩
      · have h1b : (C1 != 0) = true := by simpa using h1
        go_wp2_with (go_at_call 17; with_reducible refine (K2.out).mono ?_)
        rintro _ _ ⟨rfl, rfl⟩
        go_wp2
        go_ret
        exact ⟨rfl, HB.out⟩
    · have h2b : (C2 == 0) = false := by simpa using h2
      by_cases h1 : C1 = 0
      · have K1 := Lib.hid (sign_ok (H1.out.trans h1))
        subst h1
        have S1 := Lib.hid (signOf.impl_any HX.out)
        rw [K1.out.1] at S1
        go_wp2_with (go_at_call 27; with_reducible refine (S1.out).mono ?_)
        rintro _ wF ⟨rfl, hbF⟩
        replace HX := Lib.hid (HX.out.step hbF)
        replace HY := Lib.hid (HY.out.step hbF)
        replace HP := Lib.hid (HP.out.step hbF)
        replace HW := Lib.hid (HW.out.step hbF)
        replace HC := Lib.hid (HC.out.step hbF)
        replace HI := Lib.hid (HI.out.step hbF)
        replace HB := Lib.hid (HB.out.trans (hbF.mono HB.out.size))
        clear hbF
        have S2 := Lib.hid (signOf.impl_any HY.out)
        rw [K1.out.2.1] at S2
        go_wp2_with (go_at_call 27; with_reducible refine (S2.out).mono ?_)
        rintro _ wG ⟨rfl, hbG⟩
        replace HX := Lib.hid (HX.out.step hbG)
        replace HY := Lib.hid (HY.out.step hbG)
        replace HP := Lib.hid (HP.out.step hbG)
        replace HW := Lib.hid (HW.out.step hbG)
        replace HC := Lib.hid (HC.out.step hbG)
        replace HI := Lib.hid (HI.out.step hbG)
        replace HB := Lib.hid (HB.out.trans (hbG.mono HB.out.size))
        clear hbG
        have S3 := Lib.hid (signOf.impl_any HP.out)
        rw [K1.out.2.2.1, K1.out.2.2.2.1] at S3
        obtain ⟨X, hX⟩ : ∃ X, signOf.val xs = X := ⟨_, rfl⟩
        obtain ⟨Y, hY⟩ : ∃ Y, signOf.val ys = Y := ⟨_, rfl⟩
        have hx := K1.out.2.2.2.2.1
        have hy := K1.out.2.2.2.2.2
        rw [hX] at hx S3
        rw [hY] at hy S3
        rw [hX, hY]
        rcases hx with rfl | rfl <;> rcases hy with rfl | rfl
        all_goals
          go_wp2_with (go_at_call 27; with_reducible refine (S3.out).mono ?_)
          rintro _ wH ⟨rfl, hbH⟩
          replace HX := Lib.hid (HX.out.step hbH)
          replace HY := Lib.hid (HY.out.step hbH)
          replace HP := Lib.hid (HP.out.step hbH)
          replace HW := Lib.hid (HW.out.step hbH)
          replace HC := Lib.hid (HC.out.step hbH)
          replace HI := Lib.hid (HI.out.step hbH)
          replace HB := Lib.hid (HB.out.trans (hbH.mono HB.out.size))
          clear hbH
          go_wp2
          go_ret
          exact ⟨rfl, HB.out⟩
      · have h1b : (C1 != 0) = true := by simpa using h1
        go_wp2
        go_ret
        exact ⟨rfl, HB.out⟩

theorem own : ownKnob Try.prog.godebug = none := by kernel_rfl
theorem laidOut : laidOutB Try.prog = true := by kernel_rfl

set_option maxRecDepth 100000 in
theorem lifted (os : Os) (started : os.Started) (H : Type) (enc : TypeId × Value → H) :
    ReturnsInHanded {} Try.checked os 11 .any (Rows.fnPermutationsSpec.pre6 enc Try.prog Try.f11 Rows.fnPermutationsRow.domain false) (Rows.fnPermutationsSpec.post enc Try.prog Try.f11 false true false false) := by
  refine returnsInHanded_of_change (C := Try.checked) own started (by kernel_rfl) Try.func11
    (ChangeSpec.witness6 (enc := enc) (C := Try.checked) false ⟨#[], #[.slice none 0 0], []⟩ 8 (by kernel_rfl) (by kernel_rfl) (by kernel_rfl) (by kernel_rfl)) ?_
  intro W base args ds gs before hval0 hW hcnd _
  have hval : ∀ (j : Nat) t v, Try.f11.params[j]? = some t → args[j]? = some v → Value.okWide Try.prog W .any base t v := hval0
  have hW' := hW
  obtain ⟨p, q, hA0, hV, rfl, hfz, hnd⟩ := hW
  have hA : DataW.TrodAll enc Try.prog W 0 (fun _ => true) true Try.f11.params.toList args.toList ds p := hA0
  rw [Try.params11] at hA hval
  obtain ⟨v0, vs0, d0, ds0, p0, q0, hargs, rfl, rfl, h0, r0⟩ := trodAll_cons hA
  obtain ⟨rfl, rfl, rfl⟩ := trodAll_nil r0
  obtain rfl : args = #[v0] := by cases args; simp_all
  obtain ⟨rfl, rfl⟩ := trodVars_none hV
  have k0 := h0
  have lt0 : ∀ x ∈ p0, x.block < W.heap.size := by obtain ⟨m, hm⟩ := k0; exact DataW.trod_lt m _ _ _ hm
  obtain ⟨a0, len0, cap0, rfl⟩ := okWide_slice Try.underlying41 (hval 0 41 v0 rfl rfl)
  obtain ⟨z0, w0⟩ : ∃ zs, IsRow .u8 W a0 len0 cap0 zs := by
    obtain ⟨fuel, hf⟩ := h0
    rcases open_ints Try.underlying41 Try.underlying5 (by kernel_rfl) hf with ⟨hcs, _⟩ | ⟨x, l, c, zs, hcs, _, hl, hm, hz, _, hcell, hwz⟩
    · simp [Value.cells] at hcs
      obtain ⟨rfl, rfl, rfl⟩ := hcs
      exact ⟨[], .inl ⟨rfl, rfl, rfl, rfl⟩⟩
    · simp [Value.cells] at hcs
      obtain ⟨rfl, rfl, rfl⟩ := hcs
      exact ⟨zs, .inr ⟨_, rfl, hl, hm, by simpa using hz, hcell, hwz⟩⟩
  clear hA0 hval0
  refine (walk a0 len0 cap0 z0 W w0).mono fun e W' ⟨he, bel⟩ => ?_
  subst he
  exact ⟨_, rfl, _, _, _, [], _, [], hW', trodAll_mk1 (shut_bool Try.underlying4 _), (trodAll_cons_mk (Below.trod laidOut (by kernel_rfl) (of_decide_eq_true (by kernel_rfl)) k0 bel lt0) trodAll_mk0), rfl, bel.frame _, fun h => by cases h⟩

theorem over : Rows.fnPermutationsRow.holds Try.pinned (OpenSpec.ofChange Rows.fnPermutationsSpec) :=
  OpenClaim.holds_of_wide 11 Try.f11 rfl rfl rfl rfl rfl rfl rfl ⟨rfl, rfl, rfl, rfl, rfl⟩ rfl rfl rfl rfl rfl (by kernel_rfl) Try.func11 (by kernel_rfl)
    (of_decide_eq_true (by kernel_rfl)) (by unfold Func.isWrapper; first | (rw [if_pos (by decide +kernel)]; kernel_rfl) | (rw [if_neg (by decide +kernel)]; exact ⟨rfl, rfl⟩))
    (fun os started H enc _ => lifted os started H enc)

theorem proved : Rows.FnPermutationsSaid := over
#print axioms proved
end Go.Proofs.Ytdgigkbfekbkkaa.permutations
