/- 'laws.FnFactors' returns true for all arguments: the factors of a number give it again, and its divisors come in pairs. Conditions: none. -/
import Derived.Test.YtlndfjplhfgicaaRows
import Derived.WalkKit
import Derived.ProofKit
import Derived.OpenShut
import Derived.ShutString
import Derived.ChangeOld
import Derived.Below
import Derived.Lib.SmallJoins
import Derived.Test.YtlndfjplhfgicaaDe
import Derived.Test.YtlndfjplhfgicaaNo
import Derived.Test.YtlndfjplhfgicaaNi
namespace Go.Proofs.Ytlndfjplhfgicaa.factorsLaw
open Go.ChangeShapes Go.WideShapes Go.ChangeAt Go.RowKit
open Go.ChangeMaps (open_string shut_string)
set_option linter.unusedVariables false
set_option linter.unusedSimpArgs false


theorem fac_ok {n : Int} (h : facC n = 0) : (1 ≤ n ∧ n ≤ 1000000) ∧ facL n = factL n := by
  unfold facC at h
  unfold facL
  by_cases h1 : inB n 1 1000000 = true
  · rw [if_pos h1]; exact ⟨inB_iff.1 h1, rfl⟩
  · rw [if_neg h1] at h; cases h
theorem dof_ok {m : Int} (h : dofC m = 0) {i : Nat} (hi : i < (dofL m).length) : el (dofL m) i * el (dofL m) ((dofL m).length - 1 - i) = m := by
  rcases dof_ways m with ⟨h1, hc⟩ | ⟨h1, ⟨n1, n2⟩, ⟨hl, hc⟩ | ⟨hl, hc⟩⟩
  · rw [h] at hc; cases hc
  · have e : dofL m = divU m m.toNat := by unfold dofL; rw [if_pos h]
    rw [e] at hi ⊢
    exact div_pair n1 hi
  · rw [h] at hc; cases hc
theorem val_ok {k p : Int} (h : valC k p = 0) : (2 ≤ p ∧ p ≤ 97) ∧ k ≠ 0 ∧ valV k p = vp p k ∧ k = k / p ^ vp p k * p ^ vp p k ∧ (k / p ^ vp p k) % p ≠ 0 := by
  rcases val_ways k p with ⟨h1, hc⟩ | ⟨h1, h2, hc⟩ | ⟨h1, h2, h3, hc⟩ | ⟨h1, h2, h3, hc⟩
  · rw [h] at hc; cases hc
  · rw [h] at hc; cases hc
  · rw [h] at hc; cases hc
  · have hp := small_bd h1
    have hv := vp_spec hp.1 h3
    exact ⟨hp, h3, by unfold valV; rw [if_pos h], hv.1, hv.2.1⟩
theorem part_v {q p k : Int} {v : Nat} (hp : 2 ≤ p) (hk : k ≠ 0) (e : k = q * p ^ v) (hb : -1000000000001 ≤ k ∧ k ≤ 1000000000001) : v ≤ 1000000000001 := by
  have h1 : p ^ v ∣ k := ⟨q, by rw [e, Int.mul_comm]⟩
  have h2 := Nat.le_of_dvd (by omega) (Int.natAbs_dvd_natAbs.2 h1)
  rw [Int.natAbs_pow] at h2
  have h3 : 2 ^ v ≤ p.natAbs ^ v := Nat.pow_le_pow_left (by omega) v
  have h4 : v < 2 ^ v := Nat.lt_two_pow_self
  omega
theorem part_bd {q p k : Int} {v j : Nat} (hp : 2 ≤ p) (hk : k ≠ 0) (e : k = q * p ^ v) (hj : j ≤ v) (hb : -1000000000001 ≤ k ∧ k ≤ 1000000000001) : -1000000000001 ≤ q * p ^ (v - j) ∧ q * p ^ (v - j) ≤ 1000000000001 := by
  have hd : q * p ^ (v - j) ∣ k := ⟨p ^ j, by rw [e, Int.mul_assoc, ← Int.pow_add]; congr 2; omega⟩
  have := Nat.le_of_dvd (by omega) (Int.natAbs_dvd_natAbs.2 hd)
  omega

set_option maxRecDepth 100000 in
set_option maxHeartbeats 16000000 in
theorem walk (a0 : Option Addr) (len0 cap0 : Nat) (z0 : List Int) (w : World) (ha0 : IsRow .u8 w a0 len0 cap0 z0) :
    Calls Try.prog 4 #[.slice a0 len0 cap0] w fun e w' => e = .returned (.bool true) ∧ Below w.heap.size w w' := by
  by_cases hbig : len0 ≤ 4096
  case neg =>
    go_enter Try.func4, Try.ntmps4
    go_wp2_with (go_at_call 18; with_reducible refine (big_yes (by omega) ha0.max).mono ?_)
    rintro _ _ ⟨rfl, rfl⟩
    go_wp2
    go_ret
    exact ⟨rfl, Below.refl _ _⟩
  obtain ⟨Z, hZ, hBs⟩ := ha0.bytes (by omega)
  subst hZ
  have HBs := Lib.hid hBs
  clear hBs ha0
  have HB := Lib.hid (Below.refl w.heap.size w)
  go_enter Try.func4, Try.ntmps4
  go_wp2_with (go_at_call 18; with_reducible refine (big_no hbig).mono ?_)
  rintro _ _ ⟨rfl, rfl⟩

  have HBz := Lib.hid (HBs.out.next HB.out HB.out.size)
  go_wp2_with (go_at_call 19; with_reducible refine (DrawFactorOf_any HBz.out).mono ?_)
  rintro _ wz1 ⟨n, rfl, ⟨n0, n1⟩, hbN⟩
  replace HB := Lib.hid (HB.out.trans (hbN.mono HB.out.size))
  clear HBz hbN 
  go_wp2_with (go_at_call 20; with_reducible refine (FactorOf_any n _).mono ?_)
  rintro _ wf ⟨vf, rfl, oN, hbN⟩
  replace HB := Lib.hid (HB.out.trans (hbN.mono HB.out.size))
  have HF := Lib.hid oN
  clear oN hbN
  go_wp2_with (go_at_call 21; with_reducible refine (sFactorOf_any n _).mono ?_)
  rintro _ wg ⟨vg, rfl, oN, hbN⟩
  replace HF := Lib.hid (HF.out.step hbN)
  replace HB := Lib.hid (HB.out.trans (hbN.mono HB.out.size))
  have HG := Lib.hid oN
  clear oN hbN
  have HBz := Lib.hid (HBs.out.next HB.out HB.out.size)
  go_wp2_with (go_at_call 22; with_reducible refine (DrawDivisorsOf_any HBz.out).mono ?_)
  rintro _ wz2 ⟨m, rfl, ⟨m0, m1⟩, hbN⟩
  replace HF := Lib.hid (HF.out.step hbN)
  replace HG := Lib.hid (HG.out.step hbN)
  replace HB := Lib.hid (HB.out.trans (hbN.mono HB.out.size))
  clear HBz hbN 
  go_wp2_with (go_at_call 14; with_reducible refine (DivisorsOf_any m _).mono ?_)
  rintro _ wz3 ⟨v3, rfl, oN, hbN⟩
  obtain ⟨sa3, sc3, rfl, _, _⟩ := oN.shape
  replace HF := Lib.hid (HF.out.step hbN)
  replace HG := Lib.hid (HG.out.step hbN)
  replace HB := Lib.hid (HB.out.trans (hbN.mono HB.out.size))
  have HD := Lib.hid oN.reads
  clear oN hbN
  go_wp2_with (go_at_call 13; with_reducible refine (sDivisorsOf_any m _).mono ?_)
  rintro _ wz4 ⟨v4, rfl, oN, hbN⟩
  obtain ⟨sa4, sc4, rfl, _, _⟩ := oN.shape
  replace HF := Lib.hid (HF.out.step hbN)
  replace HG := Lib.hid (HG.out.step hbN)
  replace HD := Lib.hid (HD.out.step hbN)
  replace HB := Lib.hid (HB.out.trans (hbN.mono HB.out.size))
  have HE := Lib.hid oN.reads
  clear oN hbN
  have HBz := Lib.hid (HBs.out.next HB.out HB.out.size)
  go_wp2_with (go_at_call 23; with_reducible refine (DrawValuationOf_any HBz.out).mono ?_)
  rintro _ wz5 ⟨k, p, rfl, ⟨k0, k1⟩, ⟨p0, p1⟩, hbN⟩
  replace HF := Lib.hid (HF.out.step hbN)
  replace HG := Lib.hid (HG.out.step hbN)
  replace HD := Lib.hid (HD.out.step hbN)
  replace HE := Lib.hid (HE.out.step hbN)
  replace HB := Lib.hid (HB.out.trans (hbN.mono HB.out.size))
  clear HBz hbN 
  go_wp2_with (go_at_call 24; with_reducible refine (ValuationOf_any k p _).mono ?_)
  rintro _ _ ⟨rfl, rfl⟩
  go_wp2_with (go_at_call 25; with_reducible refine (sValuationOf_any k p _).mono ?_)
  rintro _ _ ⟨rfl, rfl⟩
  obtain ⟨C1, hC1⟩ : ∃ C, facC n = C := ⟨_, rfl⟩
  obtain ⟨C2, hC2⟩ : ∃ C, dofC m = C := ⟨_, rfl⟩
  obtain ⟨C3, hC3⟩ : ∃ C, valC k p = C := ⟨_, rfl⟩
  obtain ⟨V, hV⟩ : ∃ V, valV k p = V := ⟨_, rfl⟩
  rw [hC1, hC2, hC3, hV]
  have f1 : (C1 != C1) = false := by simp
  have f2 : (C2 != C2) = false := by simp
  have f3 : (C3 != C3) = false := by simp
  have f4 : (V != V) = false := by simp
  have H1 := Lib.hid hC1
  have H2 := Lib.hid hC2
  have H3 := Lib.hid hC3
  have HV := Lib.hid hV
  clear hC1 hC2 hC3 hV
  go_wp2_with (go_at_call 26; with_reducible refine (likePowers_same HF.out HG.out).mono ?_)
  rintro _ wz6 ⟨rfl, hbN⟩
  replace HF := Lib.hid (HF.out.step hbN)
  replace HG := Lib.hid (HG.out.step hbN)
  replace HD := Lib.hid (HD.out.step hbN)
  replace HE := Lib.hid (HE.out.step hbN)
  replace HB := Lib.hid (HB.out.trans (hbN.mono HB.out.size))
  clear hbN
  go_wp2_with (go_at_call 27; with_reducible refine (likeInts_same HD.out HE.out).mono ?_)
  rintro _ wz7 ⟨rfl, hbN⟩
  replace HF := Lib.hid (HF.out.step hbN)
  replace HG := Lib.hid (HG.out.step hbN)
  replace HD := Lib.hid (HD.out.step hbN)
  replace HE := Lib.hid (HE.out.step hbN)
  replace HB := Lib.hid (HB.out.trans (hbN.mono HB.out.size))
  clear hbN
  clear HG HE
  obtain ⟨fa, fc, hfv, hfc, hfm, _⟩ := HF.out
  subst hfv
  obtain ⟨fs, hfs⟩ : ∃ fs, facL n = fs := ⟨_, rfl⟩
  have HFS := Lib.hid hfs
  rw [hfs] at HF ⊢
  clear hfs
  obtain ⟨nf, hnf⟩ : ∃ nf, fs.length = nf := ⟨_, rfl⟩
  have HNF := Lib.hid hnf
  rw [hnf] at HF ⊢
  clear hnf
  obtain ⟨ds, hds⟩ : ∃ ds, dofL m = ds := ⟨_, rfl⟩
  have HDS := Lib.hid hds
  rw [hds] at HD ⊢
  clear hds
  obtain ⟨nd, hnd⟩ : ∃ nd, ds.length = nd := ⟨_, rfl⟩
  have HND := Lib.hid hnd
  have hndb : nd ≤ 1099511627776 := by have := HD.out.1; omega
  have hnfb : nf ≤ 9223372036854775807 := by rw [HFS.out, HNF.out] at hfc; unfold maxLen at hfm; omega
  clear hfc hfm
  rw [hnd] at HD ⊢
  clear hnd
  go_wp2
  go_loopw [19] (fun c wr => ∃ i : Nat, c = .int .i64 (i : Int) ∧ i ≤ nd ∧ Reads wr (.slice sa3 nd sc3) ds ∧ PowReads wr (.slice fa nf fc) fs ∧ Below w.heap.size w wr) (fun c _ => nd - (intOf c).toNat)
  case atStart => exact ⟨0, rfl, by omega, HD.out, HF.out, HB.out⟩
  case round =>
    clear HD HF HB
    obtain ⟨i, rfl, hi, hd, hf, hb⟩ := hrel
    have HD := Lib.hid hd
    have HF := Lib.hid hf
    have HB := Lib.hid hb
    clear hd hf hb
    by_cases h2 : C2 = 0
    · by_cases hlt : i < nd
      · have hxy := dof_ok (H2.out.trans h2) (i := i) (by rw [HDS.out, HND.out]; exact hlt)
        rw [HDS.out, HND.out] at hxy
        obtain ⟨b, o, hbo, c1⟩ := Reads.cellN HD.out (k := i) (by rw [HND.out]; exact hlt)
        obtain ⟨b', o', hbo', c2⟩ := Reads.cellN HD.out (k := nd - 1 - i) (by rw [HND.out]; omega)
        subst hbo
        injection hbo' with hbo'
        injection hbo' with e3 e4 e5
        subst e3 e4
        clear e5
        obtain ⟨x, hx⟩ : ∃ x, el ds i = x := ⟨_, rfl⟩
        obtain ⟨y, hy⟩ : ∃ y, el ds (nd - 1 - i) = y := ⟨_, rfl⟩
        rw [hx] at hxy c1
        rw [hy] at hxy c2
        have hxb0 : -1000000000001 ≤ x * y := by omega
        have hxb1 : x * y ≤ 1000000000001 := by omega
        have hxyb : (x * y != m) = false := by simpa using hxy
        have h2b : (C2 == 0) = true := by simpa using h2
        clear hx hy hxy
        go_wp2
        go_quiet (fail)
        go_wp2
        go_roundw
        case rel => exact ⟨i + 1, by go_num, by omega, HD.out.step ⟨rfl, rfl, rfl, Nat.le_refl _, fun _ _ => rfl⟩, HF.out.step ⟨rfl, rfl, rfl, Nat.le_refl _, fun _ _ => rfl⟩, HB.out.trans ⟨rfl, rfl, rfl, Nat.le_refl _, fun _ _ => rfl⟩⟩
        case measure => simp [intOf]; omega
      · obtain rfl : i = nd := by omega
        subst h2
        by_cases h3 : C3 = 0
        · obtain ⟨⟨q0, q1⟩, hk0, hvv, hke, hqq⟩ := val_ok (H3.out.trans h3)
          rw [HV.out] at hvv
          subst h3
          obtain ⟨v, hv⟩ : ∃ v, vp p k = v := ⟨_, rfl⟩
          rw [hv] at hvv hke hqq
          subst hvv
          obtain ⟨q, hq⟩ : ∃ q, k / p ^ v = q := ⟨_, rfl⟩
          rw [hq] at hke hqq
          have HKE := Lib.hid hke
          have HBD := Lib.hid (fun j (hj : j ≤ v) => part_bd (j := j) q0 hk0 hke hj ⟨k0, k1⟩)
          have hp0 : ¬ p = 0 := by omega
          have hqb := HBD.out v (Nat.le_refl _)
          rw [Nat.sub_self, Int.pow_zero, Int.mul_one] at hqb
          obtain ⟨qb0, qb1⟩ := hqb
          have hvb := part_v q0 hk0 hke ⟨k0, k1⟩
          have hqm : (q.tmod p == 0) = false := by simpa using fun e => hqq ((tmod_zero q p).1 e)
          clear hke hq hqq hv
          go_wp2
          go_loop [13, 20] (fun K c => ∃ j : Nat, c = .int .i64 (j : Int) ∧ j ≤ v ∧ K = .int .i64 (q * p ^ (v - j))) (fun _ c => v - (intOf c).toNat)
          case atStart => exact ⟨0, rfl, by omega, by rw [Nat.sub_zero, ← HKE.out]⟩
          case round =>
            obtain ⟨j, rfl, hj, rfl⟩ := hrel
            obtain ⟨t0, t1⟩ := HBD.out j hj
            by_cases hjv : j < v
            · obtain ⟨T, hT⟩ : ∃ T, q * p ^ (v - (j + 1)) = T := ⟨_, rfl⟩
              have hKT : q * p ^ (v - j) = T * p := by rw [← hT, show v - j = (v - (j + 1)) + 1 by omega, Int.pow_succ, Int.mul_assoc]
              have HT := Lib.hid hT
              have HD2 := Lib.hid (show (T * p).tdiv p = T from Int.mul_tdiv_cancel _ hp0)
              have hm2 : ((T * p).tmod p != 0) = false := by simp [Int.mul_tmod_left]
              rw [hKT] at t0 t1 ⊢
              obtain ⟨K, hK⟩ : ∃ K, T * p = K := ⟨_, rfl⟩
              rw [hK] at t0 t1 HD2 hm2 ⊢
              clear hKT hT hK
              go_wp2
              go_round
              case rel => exact ⟨j + 1, by go_num, by omega, by rw [HT.out]; exact vint HD2.out⟩
              case measure => simp [intOf]; omega
            · obtain rfl : j = v := by omega
              have e0 : q * p ^ (j - j) = q := by rw [Nat.sub_self, Int.pow_zero, Int.mul_one]
              rw [e0]
              clear t0 t1 e0
              by_cases h1 : C1 = 0
              · obtain ⟨⟨n2, n3⟩, hfe⟩ := fac_ok (H1.out.trans h1)
                have HFE := Lib.hid (HFS.out.symm.trans hfe)
                have HLEN := Lib.hid (show (factL n).length = nf by rw [← HFE.out]; exact HNF.out)
                rw [HFE.out] at HF
                clear hfe
                subst h1
                go_wp2
                go_loopw [21, 22] (fun o c wr => ∃ i : Nat, c = .int .i64 (i : Int) ∧ i ≤ nf ∧ o = .int .i64 (prodF ((factL n).take i)) ∧ PowReads wr (.slice fa nf fc) (factL n) ∧ Below w.heap.size w wr) (fun _ c _ => nf - (intOf c).toNat)
                case atStart => exact ⟨0, rfl, by omega, by simp [prodF], HF.out, HB.out⟩
                case round =>
                  clear HF HB
                  obtain ⟨i, rfl, hi, rfl, hf, hb⟩ := hrel
                  have HF := Lib.hid hf
                  have HB := Lib.hid hb
                  clear hf hb
                  by_cases hlt : i < nf
                  · have hil : i < (factL n).length := by rw [HLEN.out]; exact hlt
                    obtain ⟨g, hg, hgw, c1, c2⟩ := HF.out.at (k := i) hil
                    subst hg
                    obtain ⟨b1, b2, b3, b4, b5⟩ := fact_bits n2 n3 hil
                    have HPR := Lib.hid b1
                    have HLE := Lib.hid (fun (e : Nat) he => prodF_le (e := e) n2 hil he)
                    have HST := Lib.hid (prodF_step hil)
                    have HRI := Lib.hid (fun j (hj : j < i) => fact_rise n2 hj hil)
                    obtain ⟨x, hx⟩ : ∃ x, (pw (factL n) i).1 = x := ⟨_, rfl⟩
                    obtain ⟨y, hy⟩ : ∃ y, (pw (factL n) i).2 = y := ⟨_, rfl⟩
                    obtain ⟨P0, hP0⟩ : ∃ P0, prodF ((factL n).take i) = P0 := ⟨_, rfl⟩
                    rw [hx] at c1 b2 b3 HPR HLE HST HRI
                    rw [hy] at c2 b4 b5 HLE HST
                    rw [hP0] at HLE HST ⊢
                    clear b1 hx hy hP0
                    go_wp2
                    go_loop [21, 23] (fun o e => ∃ j : Nat, e = .int .i64 (j : Int) ∧ (j : Int) ≤ y ∧ o = .int .i64 (P0 * x ^ j)) (fun _ e => (y - intOf e).toNat)
                    case atStart => exact ⟨0, rfl, by omega, by simp⟩
                    case round =>
                      obtain ⟨j, rfl, hj, rfl⟩ := hrel
                      obtain ⟨s0, s1⟩ := HLE.out j (by omega)
                      by_cases hjy : (j : Int) < y
                      · obtain ⟨s2, s3⟩ := HLE.out (j + 1) (by omega)
                        have he : P0 * x ^ (j + 1) = P0 * x ^ j * x := by rw [Int.pow_succ, Int.mul_assoc]
                        rw [he] at s2 s3
                        have HE := Lib.hid he
                        obtain ⟨o, ho⟩ : ∃ o, P0 * x ^ j = o := ⟨_, rfl⟩
                        rw [ho] at s0 s1 s2 s3 ⊢
                        have HO := Lib.hid ho
                        clear he ho
                        go_wp2
                        go_round
                        case rel => exact ⟨j + 1, by go_num, by omega, by rw [HE.out, HO.out]⟩
                        case measure => simp [intOf]; omega
                      · have hjt : y.toNat = j := by omega
                        have HNX := Lib.hid (show P0 * x ^ j = prodF ((factL n).take (i + 1)) by rw [HST.out, hjt])
                        obtain ⟨o, ho⟩ : ∃ o, P0 * x ^ j = o := ⟨_, rfl⟩
                        have HO := Lib.hid ho
                        rw [ho] at s0 s1 ⊢
                        clear ho hjt
                        by_cases hi0 : i = 0
                        · subst hi0
                          go_wp2
                          go_quiet ((go_at_call 28; exact Calls.quiet_of_same ((calls_bool (IsPrime_any _ _) HPR.out).mono fun _ _ h => ⟨h.1, h.2.symm⟩)))
                          go_wp2
                          go_roundw
                          case rel => exact ⟨1, by go_num, by omega, by rw [← HO.out, HNX.out], HF.out.step ⟨rfl, rfl, rfl, Nat.le_refl _, fun _ _ => rfl⟩, HB.out.trans ⟨rfl, rfl, rfl, Nat.le_refl _, fun _ _ => rfl⟩⟩
                          case measure => simp [intOf]; omega
                        · obtain ⟨i', rfl⟩ : ∃ i', i = i' + 1 := ⟨i - 1, by omega⟩
                          obtain ⟨g', hg', _, c3, _⟩ := HF.out.at (k := i') (by omega)
                          injection hg' with hg'
                          injection hg' with hg' _ _
                          subst hg'
                          have hr := HRI.out i' (by omega)
                          obtain ⟨z, hz⟩ : ∃ z, (pw (factL n) i').1 = z := ⟨_, rfl⟩
                          rw [hz] at c3 hr
                          clear hz
                          have hi1 : (0 : Int) < ((i' + 1 : Nat) : Int) := by omega
                          have hi2 : decide ((0 : Int) < (i' : Int) + 1) = true := by simp <;> omega
                          have hr2 : decide (x ≤ z) = false := by simpa using hr
                          go_wp2
                          go_quiet ((go_at_call 28; exact Calls.quiet_of_same ((calls_bool (IsPrime_any _ _) HPR.out).mono fun _ _ h => ⟨h.1, h.2.symm⟩)))
                          go_wp2
                          go_roundw
                          case rel => exact ⟨i' + 1 + 1, by go_num, by omega, by rw [← HO.out, HNX.out], HF.out.step ⟨rfl, rfl, rfl, Nat.le_refl _, fun _ _ => rfl⟩, HB.out.trans ⟨rfl, rfl, rfl, Nat.le_refl _, fun _ _ => rfl⟩⟩
                          case measure => simp [intOf]; omega
                  · obtain rfl : i = nf := by omega
                    have HPN := Lib.hid (show prodF ((factL n).take i) = n by rw [List.take_of_length_le (by rw [HLEN.out]; exact Nat.le_refl _)]; exact factL_prod n2)
                    rw [HPN.out]
                    go_wp2
                    go_ret
                    exact ⟨rfl, HB.out⟩
              · have h1b : (C1 != 0) = true := by simpa using h1
                go_wp2
                go_ret
                exact ⟨rfl, HB.out⟩
        · have h3b : (C3 == 0) = false := by simpa using h3
          go_wp2
          go_loop [13, 20] (fun K c => K = .int .i64 k ∧ c = .int .i64 0) (fun _ _ => 0)
          case atStart => exact ⟨rfl, rfl⟩
          case round =>
            obtain ⟨rfl, rfl⟩ := hrel
            by_cases h1 : C1 = 0
            · obtain ⟨⟨n2, n3⟩, hfe⟩ := fac_ok (H1.out.trans h1)
              have HFE := Lib.hid (HFS.out.symm.trans hfe)
              have HLEN := Lib.hid (show (factL n).length = nf by rw [← HFE.out]; exact HNF.out)
              rw [HFE.out] at HF
              clear hfe
              subst h1
              go_wp2
              go_loopw [21, 22] (fun o c wr => ∃ i : Nat, c = .int .i64 (i : Int) ∧ i ≤ nf ∧ o = .int .i64 (prodF ((factL n).take i)) ∧ PowReads wr (.slice fa nf fc) (factL n) ∧ Below w.heap.size w wr) (fun _ c _ => nf - (intOf c).toNat)
              case atStart => exact ⟨0, rfl, by omega, by simp [prodF], HF.out, HB.out⟩
              case round =>
                clear HF HB
                obtain ⟨i, rfl, hi, rfl, hf, hb⟩ := hrel
                have HF := Lib.hid hf
                have HB := Lib.hid hb
                clear hf hb
                by_cases hlt : i < nf
                · have hil : i < (factL n).length := by rw [HLEN.out]; exact hlt
                  obtain ⟨g, hg, hgw, c1, c2⟩ := HF.out.at (k := i) hil
                  subst hg
                  obtain ⟨b1, b2, b3, b4, b5⟩ := fact_bits n2 n3 hil
                  have HPR := Lib.hid b1
                  have HLE := Lib.hid (fun (e : Nat) he => prodF_le (e := e) n2 hil he)
                  have HST := Lib.hid (prodF_step hil)
                  have HRI := Lib.hid (fun j (hj : j < i) => fact_rise n2 hj hil)
                  obtain ⟨x, hx⟩ : ∃ x, (pw (factL n) i).1 = x := ⟨_, rfl⟩
                  obtain ⟨y, hy⟩ : ∃ y, (pw (factL n) i).2 = y := ⟨_, rfl⟩
                  obtain ⟨P0, hP0⟩ : ∃ P0, prodF ((factL n).take i) = P0 := ⟨_, rfl⟩
                  rw [hx] at c1 b2 b3 HPR HLE HST HRI
                  rw [hy] at c2 b4 b5 HLE HST
                  rw [hP0] at HLE HST ⊢
                  clear b1 hx hy hP0
                  go_wp2
                  go_loop [21, 23] (fun o e => ∃ j : Nat, e = .int .i64 (j : Int) ∧ (j : Int) ≤ y ∧ o = .int .i64 (P0 * x ^ j)) (fun _ e => (y - intOf e).toNat)
                  case atStart => exact ⟨0, rfl, by omega, by simp⟩
                  case round =>
                    obtain ⟨j, rfl, hj, rfl⟩ := hrel
                    obtain ⟨s0, s1⟩ := HLE.out j (by omega)
                    by_cases hjy : (j : Int) < y
                    · obtain ⟨s2, s3⟩ := HLE.out (j + 1) (by omega)
                      have he : P0 * x ^ (j + 1) = P0 * x ^ j * x := by rw [Int.pow_succ, Int.mul_assoc]
                      rw [he] at s2 s3
                      have HE := Lib.hid he
                      obtain ⟨o, ho⟩ : ∃ o, P0 * x ^ j = o := ⟨_, rfl⟩
                      rw [ho] at s0 s1 s2 s3 ⊢
                      have HO := Lib.hid ho
                      clear he ho
                      go_wp2
                      go_round
                      case rel => exact ⟨j + 1, by go_num, by omega, by rw [HE.out, HO.out]⟩
                      case measure => simp [intOf]; omega
                    · have hjt : y.toNat = j := by omega
                      have HNX := Lib.hid (show P0 * x ^ j = prodF ((factL n).take (i + 1)) by rw [HST.out, hjt])
                      obtain ⟨o, ho⟩ : ∃ o, P0 * x ^ j = o := ⟨_, rfl⟩
                      have HO := Lib.hid ho
                      rw [ho] at s0 s1 ⊢
                      clear ho hjt
                      by_cases hi0 : i = 0
                      · subst hi0
                        go_wp2
                        go_quiet ((go_at_call 28; exact Calls.quiet_of_same ((calls_bool (IsPrime_any _ _) HPR.out).mono fun _ _ h => ⟨h.1, h.2.symm⟩)))
                        go_wp2
                        go_roundw
                        case rel => exact ⟨1, by go_num, by omega, by rw [← HO.out, HNX.out], HF.out.step ⟨rfl, rfl, rfl, Nat.le_refl _, fun _ _ => rfl⟩, HB.out.trans ⟨rfl, rfl, rfl, Nat.le_refl _, fun _ _ => rfl⟩⟩
                        case measure => simp [intOf]; omega
                      · obtain ⟨i', rfl⟩ : ∃ i', i = i' + 1 := ⟨i - 1, by omega⟩
                        obtain ⟨g', hg', _, c3, _⟩ := HF.out.at (k := i') (by omega)
                        injection hg' with hg'
                        injection hg' with hg' _ _
                        subst hg'
                        have hr := HRI.out i' (by omega)
                        obtain ⟨z, hz⟩ : ∃ z, (pw (factL n) i').1 = z := ⟨_, rfl⟩
                        rw [hz] at c3 hr
                        clear hz
                        have hi1 : (0 : Int) < ((i' + 1 : Nat) : Int) := by omega
                        have hi2 : decide ((0 : Int) < (i' : Int) + 1) = true := by simp <;> omega
                        have hr2 : decide (x ≤ z) = false := by simpa using hr
                        go_wp2
                        go_quiet ((go_at_call 28; exact Calls.quiet_of_same ((calls_bool (IsPrime_any _ _) HPR.out).mono fun _ _ h => ⟨h.1, h.2.symm⟩)))
                        go_wp2
                        go_roundw
                        case rel => exact ⟨i' + 1 + 1, by go_num, by omega, by rw [← HO.out, HNX.out], HF.out.step ⟨rfl, rfl, rfl, Nat.le_refl _, fun _ _ => rfl⟩, HB.out.trans ⟨rfl, rfl, rfl, Nat.le_refl _, fun _ _ => rfl⟩⟩
                        case measure => simp [intOf]; omega
                · obtain rfl : i = nf := by omega
                  have HPN := Lib.hid (show prodF ((factL n).take i) = n by rw [List.take_of_length_le (by rw [HLEN.out]; exact Nat.le_refl _)]; exact factL_prod n2)
                  rw [HPN.out]
                  go_wp2
                  go_ret
                  exact ⟨rfl, HB.out⟩
            · have h1b : (C1 != 0) = true := by simpa using h1
              go_wp2
              go_ret
              exact ⟨rfl, HB.out⟩
    · have h2b : (C2 == 0) = false := by simpa using h2
      by_cases h3 : C3 = 0
      · obtain ⟨⟨q0, q1⟩, hk0, hvv, hke, hqq⟩ := val_ok (H3.out.trans h3)
        rw [HV.out] at hvv
        subst h3
        obtain ⟨v, hv⟩ : ∃ v, vp p k = v := ⟨_, rfl⟩
        rw [hv] at hvv hke hqq
        subst hvv
        obtain ⟨q, hq⟩ : ∃ q, k / p ^ v = q := ⟨_, rfl⟩
        rw [hq] at hke hqq
        have HKE := Lib.hid hke
        have HBD := Lib.hid (fun j (hj : j ≤ v) => part_bd (j := j) q0 hk0 hke hj ⟨k0, k1⟩)
        have hp0 : ¬ p = 0 := by omega
        have hqb := HBD.out v (Nat.le_refl _)
        rw [Nat.sub_self, Int.pow_zero, Int.mul_one] at hqb
        obtain ⟨qb0, qb1⟩ := hqb
        have hvb := part_v q0 hk0 hke ⟨k0, k1⟩
        have hqm : (q.tmod p == 0) = false := by simpa using fun e => hqq ((tmod_zero q p).1 e)
        clear hke hq hqq hv
        go_wp2
        go_loop [13, 20] (fun K c => ∃ j : Nat, c = .int .i64 (j : Int) ∧ j ≤ v ∧ K = .int .i64 (q * p ^ (v - j))) (fun _ c => v - (intOf c).toNat)
        case atStart => exact ⟨0, rfl, by omega, by rw [Nat.sub_zero, ← HKE.out]⟩
        case round =>
          obtain ⟨j, rfl, hj, rfl⟩ := hrel
          obtain ⟨t0, t1⟩ := HBD.out j hj
          by_cases hjv : j < v
          · obtain ⟨T, hT⟩ : ∃ T, q * p ^ (v - (j + 1)) = T := ⟨_, rfl⟩
            have hKT : q * p ^ (v - j) = T * p := by rw [← hT, show v - j = (v - (j + 1)) + 1 by omega, Int.pow_succ, Int.mul_assoc]
            have HT := Lib.hid hT
            have HD2 := Lib.hid (show (T * p).tdiv p = T from Int.mul_tdiv_cancel _ hp0)
            have hm2 : ((T * p).tmod p != 0) = false := by simp [Int.mul_tmod_left]
            rw [hKT] at t0 t1 ⊢
            obtain ⟨K, hK⟩ : ∃ K, T * p = K := ⟨_, rfl⟩
            rw [hK] at t0 t1 HD2 hm2 ⊢
            clear hKT hT hK
            go_wp2
            go_round
            case rel => exact ⟨j + 1, by go_num, by omega, by rw [HT.out]; exact vint HD2.out⟩
            case measure => simp [intOf]; omega
          · obtain rfl : j = v := by omega
            have e0 : q * p ^ (j - j) = q := by rw [Nat.sub_self, Int.pow_zero, Int.mul_one]
            rw [e0]
            clear t0 t1 e0
            by_cases h1 : C1 = 0
            · obtain ⟨⟨n2, n3⟩, hfe⟩ := fac_ok (H1.out.trans h1)
              have HFE := Lib.hid (HFS.out.symm.trans hfe)
              have HLEN := Lib.hid (show (factL n).length = nf by rw [← HFE.out]; exact HNF.out)
              rw [HFE.out] at HF
              clear hfe
              subst h1
              go_wp2
              go_loopw [21, 22] (fun o c wr => ∃ i : Nat, c = .int .i64 (i : Int) ∧ i ≤ nf ∧ o = .int .i64 (prodF ((factL n).take i)) ∧ PowReads wr (.slice fa nf fc) (factL n) ∧ Below w.heap.size w wr) (fun _ c _ => nf - (intOf c).toNat)
              case atStart => exact ⟨0, rfl, by omega, by simp [prodF], HF.out, HB.out⟩
              case round =>
                clear HF HB
                obtain ⟨i, rfl, hi, rfl, hf, hb⟩ := hrel
                have HF := Lib.hid hf
                have HB := Lib.hid hb
                clear hf hb
                by_cases hlt : i < nf
                · have hil : i < (factL n).length := by rw [HLEN.out]; exact hlt
                  obtain ⟨g, hg, hgw, c1, c2⟩ := HF.out.at (k := i) hil
                  subst hg
                  obtain ⟨b1, b2, b3, b4, b5⟩ := fact_bits n2 n3 hil
                  have HPR := Lib.hid b1
                  have HLE := Lib.hid (fun (e : Nat) he => prodF_le (e := e) n2 hil he)
                  have HST := Lib.hid (prodF_step hil)
                  have HRI := Lib.hid (fun j (hj : j < i) => fact_rise n2 hj hil)
                  obtain ⟨x, hx⟩ : ∃ x, (pw (factL n) i).1 = x := ⟨_, rfl⟩
                  obtain ⟨y, hy⟩ : ∃ y, (pw (factL n) i).2 = y := ⟨_, rfl⟩
                  obtain ⟨P0, hP0⟩ : ∃ P0, prodF ((factL n).take i) = P0 := ⟨_, rfl⟩
                  rw [hx] at c1 b2 b3 HPR HLE HST HRI
                  rw [hy] at c2 b4 b5 HLE HST
                  rw [hP0] at HLE HST ⊢
                  clear b1 hx hy hP0
                  go_wp2
                  go_loop [21, 23] (fun o e => ∃ j : Nat, e = .int .i64 (j : Int) ∧ (j : Int) ≤ y ∧ o = .int .i64 (P0 * x ^ j)) (fun _ e => (y - intOf e).toNat)
                  case atStart => exact ⟨0, rfl, by omega, by simp⟩
                  case round =>
                    obtain ⟨j, rfl, hj, rfl⟩ := hrel
                    obtain ⟨s0, s1⟩ := HLE.out j (by omega)
                    by_cases hjy : (j : Int) < y
                    · obtain ⟨s2, s3⟩ := HLE.out (j + 1) (by omega)
                      have he : P0 * x ^ (j + 1) = P0 * x ^ j * x := by rw [Int.pow_succ, Int.mul_assoc]
                      rw [he] at s2 s3
                      have HE := Lib.hid he
                      obtain ⟨o, ho⟩ : ∃ o, P0 * x ^ j = o := ⟨_, rfl⟩
                      rw [ho] at s0 s1 s2 s3 ⊢
                      have HO := Lib.hid ho
                      clear he ho
                      go_wp2
                      go_round
                      case rel => exact ⟨j + 1, by go_num, by omega, by rw [HE.out, HO.out]⟩
                      case measure => simp [intOf]; omega
                    · have hjt : y.toNat = j := by omega
                      have HNX := Lib.hid (show P0 * x ^ j = prodF ((factL n).take (i + 1)) by rw [HST.out, hjt])
                      obtain ⟨o, ho⟩ : ∃ o, P0 * x ^ j = o := ⟨_, rfl⟩
                      have HO := Lib.hid ho
                      rw [ho] at s0 s1 ⊢
                      clear ho hjt
                      by_cases hi0 : i = 0
                      · subst hi0
                        go_wp2
                        go_quiet ((go_at_call 28; exact Calls.quiet_of_same ((calls_bool (IsPrime_any _ _) HPR.out).mono fun _ _ h => ⟨h.1, h.2.symm⟩)))
                        go_wp2
                        go_roundw
                        case rel => exact ⟨1, by go_num, by omega, by rw [← HO.out, HNX.out], HF.out.step ⟨rfl, rfl, rfl, Nat.le_refl _, fun _ _ => rfl⟩, HB.out.trans ⟨rfl, rfl, rfl, Nat.le_refl _, fun _ _ => rfl⟩⟩
                        case measure => simp [intOf]; omega
                      · obtain ⟨i', rfl⟩ : ∃ i', i = i' + 1 := ⟨i - 1, by omega⟩
                        obtain ⟨g', hg', _, c3, _⟩ := HF.out.at (k := i') (by omega)
                        injection hg' with hg'
                        injection hg' with hg' _ _
                        subst hg'
                        have hr := HRI.out i' (by omega)
                        obtain ⟨z, hz⟩ : ∃ z, (pw (factL n) i').1 = z := ⟨_, rfl⟩
                        rw [hz] at c3 hr
                        clear hz
                        have hi1 : (0 : Int) < ((i' + 1 : Nat) : Int) := by omega
                        have hi2 : decide ((0 : Int) < (i' : Int) + 1) = true := by simp <;> omega
                        have hr2 : decide (x ≤ z) = false := by simpa using hr
                        go_wp2
                        go_quiet ((go_at_call 28; exact Calls.quiet_of_same ((calls_bool (IsPrime_any _ _) HPR.out).mono fun _ _ h => ⟨h.1, h.2.symm⟩)))
                        go_wp2
                        go_roundw
                        case rel => exact ⟨i' + 1 + 1, by go_num, by omega, by rw [← HO.out, HNX.out], HF.out.step ⟨rfl, rfl, rfl, Nat.le_refl _, fun _ _ => rfl⟩, HB.out.trans ⟨rfl, rfl, rfl, Nat.le_refl _, fun _ _ => rfl⟩⟩
                        case measure => simp [intOf]; omega
                · obtain rfl : i = nf := by omega
                  have HPN := Lib.hid (show prodF ((factL n).take i) = n by rw [List.take_of_length_le (by rw [HLEN.out]; exact Nat.le_refl _)]; exact factL_prod n2)
                  rw [HPN.out]
                  go_wp2
                  go_ret
                  exact ⟨rfl, HB.out⟩
            · have h1b : (C1 != 0) = true := by simpa using h1
              go_wp2
              go_ret
              exact ⟨rfl, HB.out⟩
      · have h3b : (C3 == 0) = false := by simpa using h3
        go_wp2
        go_loop [13, 20] (fun K c => K = .int .i64 k ∧ c = .int .i64 0) (fun _ _ => 0)
        case atStart => exact ⟨rfl, rfl⟩
        case round =>
          obtain ⟨rfl, rfl⟩ := hrel
          by_cases h1 : C1 = 0
          · obtain ⟨⟨n2, n3⟩, hfe⟩ := fac_ok (H1.out.trans h1)
            have HFE := Lib.hid (HFS.out.symm.trans hfe)
            have HLEN := Lib.hid (show (factL n).length = nf by rw [← HFE.out]; exact HNF.out)
            rw [HFE.out] at HF
            clear hfe
            subst h1
            go_wp2
            go_loopw [21, 22] (fun o c wr => ∃ i : Nat, c = .int .i64 (i : Int) ∧ i ≤ nf ∧ o = .int .i64 (prodF ((factL n).take i)) ∧ PowReads wr (.slice fa nf fc) (factL n) ∧ Below w.heap.size w wr) (fun _ c _ => nf - (intOf c).toNat)
            case atStart => exact ⟨0, rfl, by omega, by simp [prodF], HF.out, HB.out⟩
            case round =>
              clear HF HB
              obtain ⟨i, rfl, hi, rfl, hf, hb⟩ := hrel
              have HF := Lib.hid hf
              have HB := Lib.hid hb
              clear hf hb
              by_cases hlt : i < nf
              · have hil : i < (factL n).length := by rw [HLEN.out]; exact hlt
                obtain ⟨g, hg, hgw, c1, c2⟩ := HF.out.at (k := i) hil
                subst hg
                obtain ⟨b1, b2, b3, b4, b5⟩ := fact_bits n2 n3 hil
                have HPR := Lib.hid b1
                have HLE := Lib.hid (fun (e : Nat) he => prodF_le (e := e) n2 hil he)
                have HST := Lib.hid (prodF_step hil)
                have HRI := Lib.hid (fun j (hj : j < i) => fact_rise n2 hj hil)
                obtain ⟨x, hx⟩ : ∃ x, (pw (factL n) i).1 = x := ⟨_, rfl⟩
                obtain ⟨y, hy⟩ : ∃ y, (pw (factL n) i).2 = y := ⟨_, rfl⟩
                obtain ⟨P0, hP0⟩ : ∃ P0, prodF ((factL n).take i) = P0 := ⟨_, rfl⟩
                rw [hx] at c1 b2 b3 HPR HLE HST HRI
                rw [hy] at c2 b4 b5 HLE HST
                rw [hP0] at HLE HST ⊢
                clear b1 hx hy hP0
                go_wp2
                go_loop [21, 23] (fun o e => ∃ j : Nat, e = .int .i64 (j : Int) ∧ (j : Int) ≤ y ∧ o = .int .i64 (P0 * x ^ j)) (fun _ e => (y - intOf e).toNat)
                case atStart => exact ⟨0, rfl, by omega, by simp⟩
                case round =>
                  obtain ⟨j, rfl, hj, rfl⟩ := hrel
                  obtain ⟨s0, s1⟩ := HLE.out j (by omega)
                  by_cases hjy : (j : Int) < y
                  · obtain ⟨s2, s3⟩ := HLE.out (j + 1) (by omega)
                    have he : P0 * x ^ (j + 1) = P0 * x ^ j * x := by rw [Int.pow_succ, Int.mul_assoc]
                    rw [he] at s2 s3
                    have HE := Lib.hid he
                    obtain ⟨o, ho⟩ : ∃ o, P0 * x ^ j = o := ⟨_, rfl⟩
                    rw [ho] at s0 s1 s2 s3 ⊢
                    have HO := Lib.hid ho
                    clear he ho
                    go_wp2
                    go_round
                    case rel => exact ⟨j + 1, by go_num, by omega, by rw [HE.out, HO.out]⟩
                    case measure => simp [intOf]; omega
                  · have hjt : y.toNat = j := by omega
                    have HNX := Lib.hid (show P0 * x ^ j = prodF ((factL n).take (i + 1)) by rw [HST.out, hjt])
                    obtain ⟨o, ho⟩ : ∃ o, P0 * x ^ j = o := ⟨_, rfl⟩
                    have HO := Lib.hid ho
                    rw [ho] at s0 s1 ⊢
                    clear ho hjt
                    by_cases hi0 : i = 0
                    · subst hi0
                      go_wp2
                      go_quiet ((go_at_call 28; exact Calls.quiet_of_same ((calls_bool (IsPrime_any _ _) HPR.out).mono fun _ _ h => ⟨h.1, h.2.symm⟩)))
                      go_wp2
                      go_roundw
                      case rel => exact ⟨1, by go_num, by omega, by rw [← HO.out, HNX.out], HF.out.step ⟨rfl, rfl, rfl, Nat.le_refl _, fun _ _ => rfl⟩, HB.out.trans ⟨rfl, rfl, rfl, Nat.le_refl _, fun _ _ => rfl⟩⟩
                      case measure => simp [intOf]; omega
                    · obtain ⟨i', rfl⟩ : ∃ i', i = i' + 1 := ⟨i - 1, by omega⟩
                      obtain ⟨g', hg', _, c3, _⟩ := HF.out.at (k := i') (by omega)
                      injection hg' with hg'
                      injection hg' with hg' _ _
                      subst hg'
                      have hr := HRI.out i' (by omega)
                      obtain ⟨z, hz⟩ : ∃ z, (pw (factL n) i').1 = z := ⟨_, rfl⟩
                      rw [hz] at c3 hr
                      clear hz
                      have hi1 : (0 : Int) < ((i' + 1 : Nat) : Int) := by omega
                      have hi2 : decide ((0 : Int) < (i' : Int) + 1) = true := by simp <;> omega
                      have hr2 : decide (x ≤ z) = false := by simpa using hr
                      go_wp2
                      go_quiet ((go_at_call 28; exact Calls.quiet_of_same ((calls_bool (IsPrime_any _ _) HPR.out).mono fun _ _ h => ⟨h.1, h.2.symm⟩)))
                      go_wp2
                      go_roundw
                      case rel => exact ⟨i' + 1 + 1, by go_num, by omega, by rw [← HO.out, HNX.out], HF.out.step ⟨rfl, rfl, rfl, Nat.le_refl _, fun _ _ => rfl⟩, HB.out.trans ⟨rfl, rfl, rfl, Nat.le_refl _, fun _ _ => rfl⟩⟩
                      case measure => simp [intOf]; omega
              · obtain rfl : i = nf := by omega
                have HPN := Lib.hid (show prodF ((factL n).take i) = n by rw [List.take_of_length_le (by rw [HLEN.out]; exact Nat.le_refl _)]; exact factL_prod n2)
                rw [HPN.out]
                go_wp2
                go_ret
                exact ⟨rfl, HB.out⟩
          · have h1b : (C1 != 0) = true := by simpa using h1
            go_wp2
            go_ret
            exact ⟨rfl, HB.out⟩

theorem own : ownKnob Try.prog.godebug = none := by kernel_rfl
theorem laidOut : laidOutB Try.prog = true := by kernel_rfl

set_option maxRecDepth 100000 in
theorem lifted (os : Os) (started : os.Started) (H : Type) (enc : TypeId × Value → H) :
    ReturnsInHanded {} Try.checked os 4 .any (Rows.fnFactorsSpec.pre6 enc Try.prog Try.f4 Rows.fnFactorsRow.domain false) (Rows.fnFactorsSpec.post enc Try.prog Try.f4 false true false false) := by
  refine returnsInHanded_of_change (C := Try.checked) own started (by kernel_rfl) Try.func4
    (ChangeSpec.witness6 (enc := enc) (C := Try.checked) false ⟨#[], #[.slice none 0 0], []⟩ 8 (by kernel_rfl) (by kernel_rfl) (by kernel_rfl) (by kernel_rfl)) ?_
  intro W base args ds gs before hval0 hW hcnd _
  have hval : ∀ (j : Nat) t v, Try.f4.params[j]? = some t → args[j]? = some v → Value.okWide Try.prog W .any base t v := hval0
  have hW' := hW
  obtain ⟨p, q, hA0, hV, rfl, hfz, hnd⟩ := hW
  have hA : DataW.TrodAll enc Try.prog W 0 (fun _ => true) true Try.f4.params.toList args.toList ds p := hA0
  rw [Try.params4] at hA hval
  obtain ⟨v0, vs0, d0, ds0, p0, q0, hargs, rfl, rfl, h0, r0⟩ := trodAll_cons hA
  obtain ⟨rfl, rfl, rfl⟩ := trodAll_nil r0
  obtain rfl : args = #[v0] := by cases args; simp_all
  obtain ⟨rfl, rfl⟩ := trodVars_none hV
  have k0 := h0
  have lt0 : ∀ x ∈ p0, x.block < W.heap.size := by obtain ⟨m, hm⟩ := k0; exact DataW.trod_lt m _ _ _ hm
  obtain ⟨a0, len0, cap0, rfl⟩ := okWide_slice Try.underlying28 (hval 0 28 v0 rfl rfl)
  obtain ⟨z0, w0⟩ : ∃ zs, IsRow .u8 W a0 len0 cap0 zs := by
    obtain ⟨fuel, hf⟩ := h0
    rcases open_ints Try.underlying28 Try.underlying5 (by kernel_rfl) hf with ⟨hcs, _⟩ | ⟨x, l, c, zs, hcs, _, hl, hm, hz, _, hcell, hwz⟩
    · simp [Value.cells] at hcs
      obtain ⟨rfl, rfl, rfl⟩ := hcs
      exact ⟨[], .inl ⟨rfl, rfl, rfl, rfl⟩⟩
    · simp [Value.cells] at hcs
      obtain ⟨rfl, rfl, rfl⟩ := hcs
      exact ⟨zs, .inr ⟨_, rfl, hl, hm, by simpa using hz, hcell, hwz⟩⟩
  clear hA0 hval0
  refine (walk a0 len0 cap0 z0 W w0).mono fun e W' ⟨he, bel⟩ => ?_
  subst he
  exact ⟨_, rfl, _, _, _, [], _, [], hW', trodAll_mk1 (shut_bool Try.underlying4 _), (trodAll_cons_mk (Below.trod laidOut (by kernel_rfl) (of_decide_eq_true (by kernel_rfl)) k0 bel lt0) trodAll_mk0), rfl, bel.frame _, fun h => by cases h⟩

theorem over : Rows.fnFactorsRow.holds Try.pinned (OpenSpec.ofChange Rows.fnFactorsSpec) :=
  OpenClaim.holds_of_wide 4 Try.f4 rfl rfl rfl rfl rfl rfl rfl ⟨rfl, rfl, rfl, rfl, rfl⟩ rfl rfl rfl rfl rfl (by kernel_rfl) Try.func4 (by kernel_rfl)
    (of_decide_eq_true (by kernel_rfl)) (by unfold Func.isWrapper; first | (rw [if_pos (by decide +kernel)]; kernel_rfl) | (rw [if_neg (by decide +kernel)]; exact ⟨rfl, rfl⟩))
    (fun os started H enc _ => lifted os started H enc)

theorem proved : Rows.FnFactorsSaid := over
#print axioms proved
end Go.Proofs.Ytlndfjplhfgicaa.factorsLaw
