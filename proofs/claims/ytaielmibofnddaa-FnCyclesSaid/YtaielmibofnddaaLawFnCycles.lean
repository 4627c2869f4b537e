/- 'laws.FnCycles' returns true for all arguments: cycles have each point once, and a power of the least common multiple of their lengths leaves all points. Conditions: none. -/
import Derived.Test.YtaielmibofnddaaRows
import Derived.WalkKit
import Derived.ProofKit
import Derived.OpenShut
import Derived.ShutString
import Derived.ChangeOld
import Derived.Below
import Derived.Lib.SmallJoins
import Derived.Test.YtaielmibofnddaaUc
import Derived.Test.YtaielmibofnddaaUd
import Derived.Test.YtaielmibofnddaaUe
import Derived.Test.YtaielmibofnddaaNr
import Derived.Test.YtaielmibofnddaaNi
namespace Go.Proofs.Ytaielmibofnddaa.cyclesLaw
open Go.ChangeShapes Go.WideShapes Go.ChangeAt Go.RowKit
open Go.ChangeMaps (open_string shut_string)
set_option linter.unusedVariables false
set_option linter.unusedSimpArgs false


theorem codes {zs : List Int} {c : Int} (h : (if permB zs = true then (0 : Int) else 1) = c) : cyclesOf.code zs = c ∧ cycleTypeLaw.code zs = c ∧ signOf.code zs = c ∧ rankOf.code zs = c := ⟨h, h, h, h⟩
theorem pow_ok {ys : List Int} {e : Int} (h : powerPermutation.code ys e = 0) (he : e < 1000) : powerPermutation.code ys (e + 1) = 0 ∧ productOfTwo.code ys (powerPermutation.out ys e) = 0 ∧ productOfTwo.out ys (powerPermutation.out ys e) = powerPermutation.out ys (e + 1) := by
  unfold powerPermutation.code at h
  by_cases h1 : permB ys = true
  · rw [if_pos h1] at h
    by_cases h2 : inB e (-1000) 1000 = true
    · have hb := inB_iff.1 h2
      have h3 : inB (e + 1) (-1000) 1000 = true := inB_iff.2 (by omega)
      have hinv := (inv_rank h1).1
      have hp : permB (powerPermutation.out ys e) = true ∧ (powerPermutation.out ys e).length = ys.length := by
        unfold powerPermutation.out powerPermutation.base
        rw [if_pos h1, if_pos h2]
        split
        · exact ⟨perm_pow hinv _, by rw [powR_len, invL_len]⟩
        · exact ⟨perm_pow h1 _, powR_len _ _⟩
      have hstep : prodL ys (powerPermutation.out ys e) = powerPermutation.out ys (e + 1) := by
        unfold powerPermutation.out powerPermutation.base
        rw [if_pos h1, if_pos h2, if_pos h1, if_pos h3]
        by_cases hn : e < 0
        · rw [if_pos hn]
          by_cases hn2 : e + 1 < 0
          · rw [if_pos hn2, show e.natAbs = (e + 1).natAbs + 1 by omega, inv_step h1]
          · rw [if_neg hn2, show e.natAbs = 0 + 1 by omega, inv_step h1, show (e + 1).natAbs = 0 by omega, powR, powR, invL_len]
        · rw [if_neg hn, if_neg (by omega), powL_step (perm_pts h1), show (e + 1).natAbs = e.natAbs + 1 by omega]
      unfold powerPermutation.code productOfTwo.code productOfTwo.out
      rw [if_pos h1, if_pos h3, if_pos h1, if_pos hp.1, if_pos hp.2.symm, if_pos h1, if_pos hp.1, if_pos hp.2.symm]
      exact ⟨rfl, rfl, hstep⟩
    · rw [if_neg h2] at h; cases h
  · rw [if_neg h1] at h; cases h
theorem whole_ok {zs : List Int} (h : permB zs = true) : powerPermutation.code zs 60 = 0 ∧ rankOf.code (powerPermutation.out zs 60) = 0 ∧ rankOf.val (powerPermutation.out zs 60) = 0 := by
  have h2 : inB 60 (-1000) 1000 = true := by decide
  have ho : powerPermutation.out zs 60 = seqL 0 zs.length := by
    unfold powerPermutation.out powerPermutation.base
    rw [if_pos h, if_pos h2, if_neg (by omega)]
    exact pow_whole h
  obtain ⟨p1, p2⟩ := perm_one (permB_bd h).1 (permB_bd h).2.1
  rw [ho]
  unfold powerPermutation.code rankOf.code rankOf.val
  rw [if_pos h, if_pos h2, if_pos p1, if_pos p1]
  exact ⟨rfl, rfl, p2⟩

set_option maxRecDepth 100000 in
set_option maxHeartbeats 16000000 in
theorem walk (a0 : Option Addr) (len0 cap0 : Nat) (z0 : List Int) (w : World) (ha0 : IsRow .u8 w a0 len0 cap0 z0) :
    Calls Try.prog 3 #[.slice a0 len0 cap0] w fun e w' => e = .returned (.bool true) ∧ Below w.heap.size w w' := by
  by_cases hbig : len0 ≤ 4096
  case neg =>
    go_enter Try.func3, Try.ntmps3
    go_wp2_with (go_at_call 4; with_reducible refine (big_yes (by omega) ha0.max).mono ?_)
    rintro _ _ ⟨rfl, rfl⟩
    go_wp2
    go_ret
    exact ⟨rfl, Below.refl _ _⟩
  obtain ⟨Z, hZ, hBs⟩ := ha0.bytes (by omega)
  subst hZ
  have HBs := Lib.hid hBs
  clear hBs ha0
  have HB := Lib.hid (Below.refl w.heap.size w)
  go_enter Try.func3, Try.ntmps3
  go_wp2_with (go_at_call 4; with_reducible refine (big_no hbig).mono ?_)
  rintro _ _ ⟨rfl, rfl⟩

  have HBz := Lib.hid (HBs.out.next HB.out HB.out.size)
  go_wp2_with (go_at_call 5; with_reducible refine (DrawCyclesOf_any HBz.out).mono ?_)
  rintro _ wz1 ⟨zs, va, rfl, oA, hbN⟩
  replace HB := Lib.hid (HB.out.trans (hbN.mono HB.out.size))
  have HA := Lib.hid oA.reads
  clear HBz hbN oA
  obtain ⟨aa, ac, rfl, hac, ham, _⟩ := HA.out.2
  go_wp2_with (go_at_call 6; with_reducible refine (cyclesOf.impl_any HA.out).mono ?_)
  rintro _ wl1 ⟨vl1, rfl, oN, hbN⟩
  obtain ⟨la1, lc1, rfl, _, _⟩ := oN.shape
  replace HA := Lib.hid (HA.out.step hbN)
  replace HB := Lib.hid (HB.out.trans (hbN.mono HB.out.size))
  have HC := Lib.hid oN.readsLL
  clear oN hbN
  go_wp2_with (go_at_call 7; with_reducible refine (cyclesOf.spec_any HA.out).mono ?_)
  rintro _ wl2 ⟨vl2, rfl, oN, hbN⟩
  obtain ⟨la2, lc2, rfl, _, _⟩ := oN.shape
  replace HA := Lib.hid (HA.out.step hbN)
  replace HC := Lib.hid (HC.out.step hbN)
  replace HB := Lib.hid (HB.out.trans (hbN.mono HB.out.size))
  have HM := Lib.hid oN.readsLL
  clear oN hbN
  go_wp2_with (go_at_call 8; with_reducible refine (cycleTypeLaw.impl_any HA.out).mono ?_)
  rintro _ wz2 ⟨v2, rfl, oN, hbN⟩
  obtain ⟨sa2, sc2, rfl, _, _⟩ := oN.shape
  replace HA := Lib.hid (HA.out.step hbN)
  replace HC := Lib.hid (HC.out.step hbN)
  replace HM := Lib.hid (HM.out.step hbN)
  replace HB := Lib.hid (HB.out.trans (hbN.mono HB.out.size))
  have HT := Lib.hid oN.reads
  clear oN hbN
  go_wp2_with (go_at_call 9; with_reducible refine (cycleTypeLaw.spec_any HA.out).mono ?_)
  rintro _ wz3 ⟨v3, rfl, oN, hbN⟩
  obtain ⟨sa3, sc3, rfl, _, _⟩ := oN.shape
  replace HA := Lib.hid (HA.out.step hbN)
  replace HC := Lib.hid (HC.out.step hbN)
  replace HM := Lib.hid (HM.out.step hbN)
  replace HT := Lib.hid (HT.out.step hbN)
  replace HB := Lib.hid (HB.out.trans (hbN.mono HB.out.size))
  have HT2 := Lib.hid oN.reads
  clear oN hbN
  go_wp2_with (go_at_call 10; with_reducible refine (signOf.impl_any HA.out).mono ?_)
  rintro _ wz4 ⟨rfl, hbN⟩
  replace HA := Lib.hid (HA.out.step hbN)
  replace HC := Lib.hid (HC.out.step hbN)
  replace HM := Lib.hid (HM.out.step hbN)
  replace HT := Lib.hid (HT.out.step hbN)
  replace HT2 := Lib.hid (HT2.out.step hbN)
  replace HB := Lib.hid (HB.out.trans (hbN.mono HB.out.size))
  clear hbN
  go_wp2_with (go_at_call 11; with_reducible refine (signOf.spec_any HA.out).mono ?_)
  rintro _ wz5 ⟨rfl, hbN⟩
  replace HA := Lib.hid (HA.out.step hbN)
  replace HC := Lib.hid (HC.out.step hbN)
  replace HM := Lib.hid (HM.out.step hbN)
  replace HT := Lib.hid (HT.out.step hbN)
  replace HT2 := Lib.hid (HT2.out.step hbN)
  replace HB := Lib.hid (HB.out.trans (hbN.mono HB.out.size))
  clear hbN
  go_wp2_with (go_at_call 12; with_reducible refine (rankOf.impl_any HA.out).mono ?_)
  rintro _ _ ⟨rfl, rfl⟩
  go_wp2_with (go_at_call 13; with_reducible refine (rankOf.spec_any HA.out).mono ?_)
  rintro _ wz6 ⟨rfl, hbN⟩
  replace HA := Lib.hid (HA.out.step hbN)
  replace HC := Lib.hid (HC.out.step hbN)
  replace HM := Lib.hid (HM.out.step hbN)
  replace HT := Lib.hid (HT.out.step hbN)
  replace HT2 := Lib.hid (HT2.out.step hbN)
  replace HB := Lib.hid (HB.out.trans (hbN.mono HB.out.size))
  clear hbN
  have HBz := Lib.hid (HBs.out.next HB.out HB.out.size)
  go_wp2_with (go_at_call 14; with_reducible refine (DrawPowerPermutation_any HBz.out).mono ?_)
  rintro _ wz7 ⟨ys, e, vb, rfl, ⟨e0, e1⟩, oB, hbN⟩
  replace HA := Lib.hid (HA.out.step hbN)
  replace HC := Lib.hid (HC.out.step hbN)
  replace HM := Lib.hid (HM.out.step hbN)
  replace HT := Lib.hid (HT.out.step hbN)
  replace HT2 := Lib.hid (HT2.out.step hbN)
  replace HB := Lib.hid (HB.out.trans (hbN.mono HB.out.size))
  have HY := Lib.hid oB.reads
  clear HBz hbN oB
  go_wp2_with (go_at_call 15; with_reducible refine (powerPermutation.impl_any HY.out).mono ?_)
  rintro _ wz8 ⟨v8, rfl, oN, hbN⟩
  obtain ⟨sa8, sc8, rfl, _, _⟩ := oN.shape
  replace HA := Lib.hid (HA.out.step hbN)
  replace HC := Lib.hid (HC.out.step hbN)
  replace HM := Lib.hid (HM.out.step hbN)
  replace HT := Lib.hid (HT.out.step hbN)
  replace HT2 := Lib.hid (HT2.out.step hbN)
  replace HY := Lib.hid (HY.out.step hbN)
  replace HB := Lib.hid (HB.out.trans (hbN.mono HB.out.size))
  have HP := Lib.hid oN.reads
  clear oN hbN
  go_wp2_with (go_at_call 16; with_reducible refine (powerPermutation.spec_any HY.out).mono ?_)
  rintro _ wz9 ⟨v9, rfl, oN, hbN⟩
  obtain ⟨sa9, sc9, rfl, _, _⟩ := oN.shape
  replace HA := Lib.hid (HA.out.step hbN)
  replace HC := Lib.hid (HC.out.step hbN)
  replace HM := Lib.hid (HM.out.step hbN)
  replace HT := Lib.hid (HT.out.step hbN)
  replace HT2 := Lib.hid (HT2.out.step hbN)
  replace HY := Lib.hid (HY.out.step hbN)
  replace HP := Lib.hid (HP.out.step hbN)
  replace HB := Lib.hid (HB.out.trans (hbN.mono HB.out.size))
  have HP2 := Lib.hid oN.reads
  clear oN hbN
  obtain ⟨C, hC⟩ : ∃ C, (if permB zs = true then (0 : Int) else 1) = C := ⟨_, rfl⟩
  obtain ⟨k1, k2, k3, k4⟩ := codes hC
  obtain ⟨C7, hC7⟩ : ∃ C, powerPermutation.code ys e = C := ⟨_, rfl⟩
  obtain ⟨S1, hS1⟩ : ∃ S, signOf.val zs = S := ⟨_, rfl⟩
  obtain ⟨R1, hR1⟩ : ∃ R, rankOf.val zs = R := ⟨_, rfl⟩
  rw [k1, k2, k3, k4, hC7, hS1, hR1]
  have f1 : (C != C) = false := by simp
  have f2 : (C7 != C7) = false := by simp
  have f3 : (S1 != S1) = false := by simp
  have f4 : (R1 != R1) = false := by simp
  have HC0 := Lib.hid hC
  have H7 := Lib.hid hC7
  clear hC k1 k2 k3 k4 hC7 hS1 hR1
  go_wp2_with (go_at_call 17; with_reducible refine (likeTables_same HC.out HM.out).mono ?_)
  rintro _ wz10 ⟨rfl, hbN⟩
  replace HA := Lib.hid (HA.out.step hbN)
  replace HC := Lib.hid (HC.out.step hbN)
  replace HM := Lib.hid (HM.out.step hbN)
  replace HT := Lib.hid (HT.out.step hbN)
  replace HT2 := Lib.hid (HT2.out.step hbN)
  replace HY := Lib.hid (HY.out.step hbN)
  replace HP := Lib.hid (HP.out.step hbN)
  replace HP2 := Lib.hid (HP2.out.step hbN)
  replace HB := Lib.hid (HB.out.trans (hbN.mono HB.out.size))
  clear hbN
  go_wp2_with (go_at_call 18; with_reducible refine (likeInts_same HT.out HT2.out).mono ?_)
  rintro _ wz11 ⟨rfl, hbN⟩
  replace HA := Lib.hid (HA.out.step hbN)
  replace HC := Lib.hid (HC.out.step hbN)
  replace HM := Lib.hid (HM.out.step hbN)
  replace HT := Lib.hid (HT.out.step hbN)
  replace HT2 := Lib.hid (HT2.out.step hbN)
  replace HY := Lib.hid (HY.out.step hbN)
  replace HP := Lib.hid (HP.out.step hbN)
  replace HP2 := Lib.hid (HP2.out.step hbN)
  replace HB := Lib.hid (HB.out.trans (hbN.mono HB.out.size))
  clear hbN
  go_wp2_with (go_at_call 18; with_reducible refine (likeInts_same HP.out HP2.out).mono ?_)
  rintro _ wz12 ⟨rfl, hbN⟩
  replace HA := Lib.hid (HA.out.step hbN)
  replace HC := Lib.hid (HC.out.step hbN)
  replace HM := Lib.hid (HM.out.step hbN)
  replace HT := Lib.hid (HT.out.step hbN)
  replace HT2 := Lib.hid (HT2.out.step hbN)
  replace HY := Lib.hid (HY.out.step hbN)
  replace HP := Lib.hid (HP.out.step hbN)
  replace HP2 := Lib.hid (HP2.out.step hbN)
  replace HB := Lib.hid (HB.out.trans (hbN.mono HB.out.size))
  clear hbN
  clear HT2 HP2
  by_cases h7 : C7 = 0
  · by_cases he : e < 1000
    · have PW := Lib.hid (pow_ok (H7.out.trans h7) he)
      subst h7
      have K5 := Lib.hid (powerPermutation.impl_any (e := e + 1) HY.out)
      rw [PW.out.1] at K5
      go_wp2_with (go_at_call 15; with_reducible refine (K5.out).mono ?_)
      rintro _ wz13 ⟨v13, rfl, oN, hbN⟩
      obtain ⟨sa13, sc13, rfl, _, _⟩ := oN.shape
      replace HA := Lib.hid (HA.out.step hbN)
      replace HC := Lib.hid (HC.out.step hbN)
      replace HM := Lib.hid (HM.out.step hbN)
      replace HT := Lib.hid (HT.out.step hbN)
      replace HY := Lib.hid (HY.out.step hbN)
      replace HP := Lib.hid (HP.out.step hbN)
      replace HB := Lib.hid (HB.out.trans (hbN.mono HB.out.size))
      have HN1 := Lib.hid oN.reads
      clear oN hbN
      have K6 := Lib.hid (productOfTwo.impl_any HY.out HP.out)
      rw [PW.out.2.1, PW.out.2.2] at K6
      go_wp2_with (go_at_call 19; with_reducible refine (K6.out).mono ?_)
      rintro _ wz14 ⟨v14, rfl, oN, hbN⟩
      obtain ⟨sa14, sc14, rfl, _, _⟩ := oN.shape
      replace HA := Lib.hid (HA.out.step hbN)
      replace HC := Lib.hid (HC.out.step hbN)
      replace HM := Lib.hid (HM.out.step hbN)
      replace HT := Lib.hid (HT.out.step hbN)
      replace HY := Lib.hid (HY.out.step hbN)
      replace HP := Lib.hid (HP.out.step hbN)
      replace HN1 := Lib.hid (HN1.out.step hbN)
      replace HB := Lib.hid (HB.out.trans (hbN.mono HB.out.size))
      have HN2 := Lib.hid oN.reads
      clear oN hbN
      go_wp2_with (go_at_call 18; with_reducible refine (likeInts_same HN1.out HN2.out).mono ?_)
      rintro _ wz15 ⟨rfl, hbN⟩
      replace HA := Lib.hid (HA.out.step hbN)
      replace HC := Lib.hid (HC.out.step hbN)
      replace HM := Lib.hid (HM.out.step hbN)
      replace HT := Lib.hid (HT.out.step hbN)
      replace HY := Lib.hid (HY.out.step hbN)
      replace HP := Lib.hid (HP.out.step hbN)
      replace HN1 := Lib.hid (HN1.out.step hbN)
      replace HN2 := Lib.hid (HN2.out.step hbN)
      replace HB := Lib.hid (HB.out.trans (hbN.mono HB.out.size))
      clear hbN
      rcases Bool.eq_false_or_eq_true (permB zs) with hp | hp
      · have hz : C = 0 := by rw [← HC0.out, if_pos hp]
        subst hz
        have HPZ := Lib.hid hp
        have hn6 := (permB_bd hp).2.1
        obtain ⟨n, hn⟩ : ∃ n, zs.length = n := ⟨_, rfl⟩
        have HN := Lib.hid hn
        obtain ⟨cs, hcs⟩ : ∃ cs, cyclesOf.out zs = cs := ⟨_, rfl⟩
        have HCS := Lib.hid (show cycL zs = cs by rw [← hcs]; unfold cyclesOf.out; rw [if_pos hp])
        rw [hcs] at HC HM ⊢
        clear hcs
        obtain ⟨m, hm⟩ : ∃ m, cs.length = m := ⟨_, rfl⟩
        have HML := Lib.hid hm
        have hm6 : m ≤ 6 := by have := (cycL_bd hp).1; rw [HCS.out] at this; omega
        rw [hm] at HC HM ⊢
        rw [hn] at HA hn6 ⊢
        clear hn hm
        obtain ⟨ts, hts⟩ : ∃ ts, cycleTypeLaw.out zs = ts := ⟨_, rfl⟩
        have HTS := Lib.hid (show typL zs = ts by rw [← hts]; unfold cycleTypeLaw.out; rw [if_pos hp])
        rw [hts] at HT ⊢
        clear hts hp
        go_wp2
        go_loopw [30, 31] (fun s c wr => ∃ i : Nat, c = .int .i64 (i : Int) ∧ i ≤ m ∧ s = .int .i64 (lenS cs i : Int) ∧ Reads wr (.slice aa n ac) zs ∧ ReadsLL wr (.slice la1 m lc1) cs ∧ ReadsLL wr (.slice la2 m lc2) cs ∧ Reads wr (.slice sa2 ts.length sc2) ts ∧ Below w.heap.size w wr) (fun _ c _ => m - (intOf c).toNat)
        case atStart => exact ⟨0, rfl, by omega, rfl, HA.out, HC.out, HM.out, HT.out, HB.out⟩
        case round =>
          clear HA HC HM HT HB
          obtain ⟨i, rfl, hi, rfl, ha, hc, hmm, ht, hb⟩ := hrel
          have HA := Lib.hid ha
          have HC := Lib.hid hc
          have HM := Lib.hid hmm
          have HT := Lib.hid ht
          have HB := Lib.hid hb
          clear ha hc hmm ht hb
          have hls : lenS cs i ≤ 36 := by
            have h1 := cyc_sum HPZ.out
            rw [HCS.out] at h1
            have h2 := lenS_le cs i
            have := HN.out
            omega
          by_cases hlt : i < m
          · have him : i < cs.length := by rw [HML.out]; exact hlt
            have HLN := Lib.hid (lenS_next him)
            have HRW := Lib.hid (fun k hk => cyc_row HPZ.out (c := row cs i) (by rw [HCS.out]; exact row_mem him) (k := k) hk)
            obtain ⟨rl, hrl⟩ : ∃ rl, (row cs i).length = rl := ⟨_, rfl⟩
            have HRL := Lib.hid hrl
            have hrl6 : rl ≤ 36 := by
              have h1 := cyc_sum HPZ.out
              rw [HCS.out] at h1
              have h2 := lenS_le cs (i + 1)
              have h3 := lenS_next him
              have := HN.out
              omega
            clear hrl
            obtain ⟨g1, b1, d1, e3, _, c1, r1⟩ := HC.out.at (i := i) him
            obtain ⟨g2, b2, d2, e4, _, c2, r2⟩ := HM.out.at (i := i) him
            subst e3 e4
            rw [HRL.out] at c1 c2
            clear r1 r2
            go_wp2
            go_loopw [32] (fun c wr => ∃ k : Nat, c = .int .i64 (k : Int) ∧ k ≤ rl ∧ Reads wr (.slice aa n ac) zs ∧ ReadsLL wr (.slice (some ⟨g1, 0, none⟩) m lc1) cs ∧ ReadsLL wr (.slice (some ⟨g2, 0, none⟩) m lc2) cs ∧ Reads wr (.slice sa2 ts.length sc2) ts ∧ Below w.heap.size w wr) (fun c _ => rl - (intOf c).toNat)
            case atStart => exact ⟨0, rfl, by omega, HA.out, HC.out, HM.out, HT.out, HB.out⟩
            case round =>
              clear HA HC HM HT HB c1 c2
              obtain ⟨k, rfl, hk, ha, hc, hmm, ht, hb⟩ := hrel
              have HA := Lib.hid ha
              have HC := Lib.hid hc
              have HM := Lib.hid hmm
              have HT := Lib.hid ht
              have HB := Lib.hid hb
              clear ha hc hmm ht hb
              obtain ⟨g1', b1, d1, e3, _, c1, r1⟩ := HC.out.at (i := i) him
              obtain ⟨g2', b2, d2, e4, _, c2, r2⟩ := HM.out.at (i := i) him
              injection e3 with e3
              injection e3 with e3 _ _
              injection e4 with e4
              injection e4 with e4 _ _
              subst e3 e4
              rw [HRL.out] at c1 c2 r1
              by_cases hkl : k < rl
              · obtain ⟨⟨x0, x1⟩, hxy⟩ := HRW.out k (by rw [HRL.out]; exact hkl)
                rw [HRL.out] at hxy
                rw [HN.out] at x1
                obtain ⟨j, hj⟩ : ∃ j, (k + 1) % rl = j := ⟨_, rfl⟩
                have hji : ((k : Int) + 1) % (rl : Int) = (j : Int) := by rw [← hj, Int.natCast_emod, Int.natCast_add]; rfl
                have hjl : j < rl := by rw [← hj]; exact Nat.mod_lt _ (by omega)
                rw [hj] at hxy
                obtain ⟨q1, o1, hq1, y1⟩ := Reads.cellN r1 (k := k) (by rw [HRL.out]; exact hkl)
                subst hq1
                obtain ⟨q2, o2, hq2, y2⟩ := Reads.cellN r1 (k := j) (by rw [HRL.out]; exact hjl)
                injection hq2 with hq2
                injection hq2 with e5 e6 _
                subst e5 e6
                obtain ⟨x, hx⟩ : ∃ x, el (row cs i) k = x := ⟨_, rfl⟩
                obtain ⟨y, hy⟩ : ∃ y, el (row cs i) j = y := ⟨_, rfl⟩
                rw [hx] at x0 x1 hxy y1
                rw [hy] at hxy y2
                obtain ⟨X, rfl⟩ : ∃ X : Nat, x = (X : Int) := ⟨x.toNat, by omega⟩
                rw [Int.toNat_natCast] at hxy
                obtain ⟨q3, o3, hq3, y3⟩ := Reads.cellN HA.out (k := X) (by rw [HN.out]; omega)
                rw [hxy] at y3
                have hXn : X < n := by omega
                have hrl0 : ¬ (rl : Int) = 0 := by omega
                have R1 := Lib.hid r1
                clear hx hy hxy hj r1 r2
                subst hq3
                go_wp2
                go_quiet (fail)
                go_wp2
                go_roundw
                case rel => exact ⟨k + 1, by go_num, by omega, HA.out.step ⟨rfl, rfl, rfl, Nat.le_refl _, fun _ _ => rfl⟩, HC.out.step ⟨rfl, rfl, rfl, Nat.le_refl _, fun _ _ => rfl⟩, HM.out.step ⟨rfl, rfl, rfl, Nat.le_refl _, fun _ _ => rfl⟩, HT.out.step ⟨rfl, rfl, rfl, Nat.le_refl _, fun _ _ => rfl⟩, HB.out.trans ⟨rfl, rfl, rfl, Nat.le_refl _, fun _ _ => rfl⟩⟩
                case measure => simp [intOf]; omega
              · obtain rfl : k = rl := by omega
                clear r1 r2
                go_wp2
                go_roundw
                case rel => exact ⟨i + 1, by go_num, by omega, by rw [HLN.out, HRL.out]; rfl, HA.out, HC.out, HM.out, HT.out, HB.out⟩
                case measure => simp [intOf]; omega
          · obtain rfl : i = m := by omega
            have HLS := Lib.hid (show lenS cs i = n by
              have h1 := cyc_sum HPZ.out
              rw [HCS.out] at h1
              unfold lenS
              rw [List.take_of_length_le (by rw [HML.out]; exact Nat.le_refl _), h1, HN.out])
            rw [HLS.out]
            clear hls
            have W1 := Lib.hid (whole_ok HPZ.out)
            have KW := Lib.hid (powerPermutation.impl_any (e := 60) HA.out)
            rw [W1.out.1] at KW
            go_wp2_with (go_at_call 15; with_reducible refine KW.out.mono ?_)
            rintro _ wP ⟨vP, rfl, oP, hbP⟩
            have KR := Lib.hid (rankOf.impl_any oP.reads)
            rw [W1.out.2.1, W1.out.2.2] at KR
            have HT3 := Lib.hid (HT.out.step hbP)
            have HB3 := Lib.hid (HB.out.trans (hbP.mono HB.out.size))
            clear oP hbP
            go_wp2_with (go_at_call 12; with_reducible refine (KR.out).mono ?_)
            rintro _ _ ⟨rfl, rfl⟩
            have HTB := Lib.hid (typ_bd HPZ.out)
            have HTSM := Lib.hid (typ_sum HPZ.out)
            rw [HTS.out] at HTB HTSM
            rw [HN.out] at HTSM
            have KS := Lib.hid (sum_any HT3.out (by have := HT3.out.1; rw [← HTS.out]; have := typ_len HPZ.out; omega) HTB.out)
            rw [HTSM.out] at KS
            go_wp2_with (go_at_call 20; ((with_reducible refine (KS.out).mono ?_); rintro e w' ⟨rfl, rfl⟩))
            go_ret
            exact ⟨rfl, HB3.out⟩
      · have hz : C = 1 := by rw [← HC0.out, if_neg (by rw [hp]; simp)]
        subst hz
        go_wp2
        go_ret
        exact ⟨rfl, HB.out⟩
    · subst h7
      rcases Bool.eq_false_or_eq_true (permB zs) with hp | hp
      · have hz : C = 0 := by rw [← HC0.out, if_pos hp]
        subst hz
        have HPZ := Lib.hid hp
        have hn6 := (permB_bd hp).2.1
        obtain ⟨n, hn⟩ : ∃ n, zs.length = n := ⟨_, rfl⟩
        have HN := Lib.hid hn
        obtain ⟨cs, hcs⟩ : ∃ cs, cyclesOf.out zs = cs := ⟨_, rfl⟩
        have HCS := Lib.hid (show cycL zs = cs by rw [← hcs]; unfold cyclesOf.out; rw [if_pos hp])
        rw [hcs] at HC HM ⊢
        clear hcs
        obtain ⟨m, hm⟩ : ∃ m, cs.length = m := ⟨_, rfl⟩
        have HML := Lib.hid hm
        have hm6 : m ≤ 6 := by have := (cycL_bd hp).1; rw [HCS.out] at this; omega
        rw [hm] at HC HM ⊢
        rw [hn] at HA hn6 ⊢
        clear hn hm
        obtain ⟨ts, hts⟩ : ∃ ts, cycleTypeLaw.out zs = ts := ⟨_, rfl⟩
        have HTS := Lib.hid (show typL zs = ts by rw [← hts]; unfold cycleTypeLaw.out; rw [if_pos hp])
        rw [hts] at HT ⊢
        clear hts hp
        go_wp2
        go_loopw [30, 31] (fun s c wr => ∃ i : Nat, c = .int .i64 (i : Int) ∧ i ≤ m ∧ s = .int .i64 (lenS cs i : Int) ∧ Reads wr (.slice aa n ac) zs ∧ ReadsLL wr (.slice la1 m lc1) cs ∧ ReadsLL wr (.slice la2 m lc2) cs ∧ Reads wr (.slice sa2 ts.length sc2) ts ∧ Below w.heap.size w wr) (fun _ c _ => m - (intOf c).toNat)
        case atStart => exact ⟨0, rfl, by omega, rfl, HA.out, HC.out, HM.out, HT.out, HB.out⟩
        case round =>
          clear HA HC HM HT HB
          obtain ⟨i, rfl, hi, rfl, ha, hc, hmm, ht, hb⟩ := hrel
          have HA := Lib.hid ha
          have HC := Lib.hid hc
          have HM := Lib.hid hmm
          have HT := Lib.hid ht
          have HB := Lib.hid hb
          clear ha hc hmm ht hb
          have hls : lenS cs i ≤ 36 := by
            have h1 := cyc_sum HPZ.out
            rw [HCS.out] at h1
            have h2 := lenS_le cs i
            have := HN.out
            omega
          by_cases hlt : i < m
          · have him : i < cs.length := by rw [HML.out]; exact hlt
            have HLN := Lib.hid (lenS_next him)
            have HRW := Lib.hid (fun k hk => cyc_row HPZ.out (c := row cs i) (by rw [HCS.out]; exact row_mem him) (k := k) hk)
            obtain ⟨rl, hrl⟩ : ∃ rl, (row cs i).length = rl := ⟨_, rfl⟩
            have HRL := Lib.hid hrl
            have hrl6 : rl ≤ 36 := by
              have h1 := cyc_sum HPZ.out
              rw [HCS.out] at h1
              have h2 := lenS_le cs (i + 1)
              have h3 := lenS_next him
              have := HN.out
              omega
            clear hrl
            obtain ⟨g1, b1, d1, e3, _, c1, r1⟩ := HC.out.at (i := i) him
            obtain ⟨g2, b2, d2, e4, _, c2, r2⟩ := HM.out.at (i := i) him
            subst e3 e4
            rw [HRL.out] at c1 c2
            clear r1 r2
            go_wp2
            go_loopw [32] (fun c wr => ∃ k : Nat, c = .int .i64 (k : Int) ∧ k ≤ rl ∧ Reads wr (.slice aa n ac) zs ∧ ReadsLL wr (.slice (some ⟨g1, 0, none⟩) m lc1) cs ∧ ReadsLL wr (.slice (some ⟨g2, 0, none⟩) m lc2) cs ∧ Reads wr (.slice sa2 ts.length sc2) ts ∧ Below w.heap.size w wr) (fun c _ => rl - (intOf c).toNat)
            case atStart => exact ⟨0, rfl, by omega, HA.out, HC.out, HM.out, HT.out, HB.out⟩
            case round =>
              clear HA HC HM HT HB c1 c2
              obtain ⟨k, rfl, hk, ha, hc, hmm, ht, hb⟩ := hrel
              have HA := Lib.hid ha
              have HC := Lib.hid hc
              have HM := Lib.hid hmm
              have HT := Lib.hid ht
              have HB := Lib.hid hb
              clear ha hc hmm ht hb
              obtain ⟨g1', b1, d1, e3, _, c1, r1⟩ := HC.out.at (i := i) him
              obtain ⟨g2', b2, d2, e4, _, c2, r2⟩ := HM.out.at (i := i) him
              injection e3 with e3
              injection e3 with e3 _ _
              injection e4 with e4
              injection e4 with e4 _ _
              subst e3 e4
              rw [HRL.out] at c1 c2 r1
              by_cases hkl : k < rl
              · obtain ⟨⟨x0, x1⟩, hxy⟩ := HRW.out k (by rw [HRL.out]; exact hkl)
                rw [HRL.out] at hxy
                rw [HN.out] at x1
                obtain ⟨j, hj⟩ : ∃ j, (k + 1) % rl = j := ⟨_, rfl⟩
                have hji : ((k : Int) + 1) % (rl : Int) = (j : Int) := by rw [← hj, Int.natCast_emod, Int.natCast_add]; rfl
                have hjl : j < rl := by rw [← hj]; exact Nat.mod_lt _ (by omega)
                rw [hj] at hxy
                obtain ⟨q1, o1, hq1, y1⟩ := Reads.cellN r1 (k := k) (by rw [HRL.out]; exact hkl)
                subst hq1
                obtain ⟨q2, o2, hq2, y2⟩ := Reads.cellN r1 (k := j) (by rw [HRL.out]; exact hjl)
                injection hq2 with hq2
                injection hq2 with e5 e6 _
                subst e5 e6
                obtain ⟨x, hx⟩ : ∃ x, el (row cs i) k = x := ⟨_, rfl⟩
                obtain ⟨y, hy⟩ : ∃ y, el (row cs i) j = y := ⟨_, rfl⟩
                rw [hx] at x0 x1 hxy y1
                rw [hy] at hxy y2
                obtain ⟨X, rfl⟩ : ∃ X : Nat, x = (X : Int) := ⟨x.toNat, by omega⟩
                rw [Int.toNat_natCast] at hxy
                obtain ⟨q3, o3, hq3, y3⟩ := Reads.cellN HA.out (k := X) (by rw [HN.out]; omega)
                rw [hxy] at y3
                have hXn : X < n := by omega
                have hrl0 : ¬ (rl : Int) = 0 := by omega
                have R1 := Lib.hid r1
                clear hx hy hxy hj r1 r2
                subst hq3
                go_wp2
                go_quiet (fail)
                go_wp2
                go_roundw
                case rel => exact ⟨k + 1, by go_num, by omega, HA.out.step ⟨rfl, rfl, rfl, Nat.le_refl _, fun _ _ => rfl⟩, HC.out.step ⟨rfl, rfl, rfl, Nat.le_refl _, fun _ _ => rfl⟩, HM.out.step ⟨rfl, rfl, rfl, Nat.le_refl _, fun _ _ => rfl⟩, HT.out.step ⟨rfl, rfl, rfl, Nat.le_refl _, fun _ _ => rfl⟩, HB.out.trans ⟨rfl, rfl, rfl, Nat.le_refl _, fun _ _ => rfl⟩⟩
                case measure => simp [intOf]; omega
              · obtain rfl : k = rl := by omega
                clear r1 r2
                go_wp2
                go_roundw
                case rel => exact ⟨i + 1, by go_num, by omega, by rw [HLN.out, HRL.out]; rfl, HA.out, HC.out, HM.out, HT.out, HB.out⟩
                case measure => simp [intOf]; omega
          · obtain rfl : i = m := by omega
            have HLS := Lib.hid (show lenS cs i = n by
              have h1 := cyc_sum HPZ.out
              rw [HCS.out] at h1
              unfold lenS
              rw [List.take_of_length_le (by rw [HML.out]; exact Nat.le_refl _), h1, HN.out])
            rw [HLS.out]
            clear hls
            have W1 := Lib.hid (whole_ok HPZ.out)
            have KW := Lib.hid (powerPermutation.impl_any (e := 60) HA.out)
            rw [W1.out.1] at KW
            go_wp2_with (go_at_call 15; with_reducible refine KW.out.mono ?_)
            rintro _ wP ⟨vP, rfl, oP, hbP⟩
            have KR := Lib.hid (rankOf.impl_any oP.reads)
            rw [W1.out.2.1, W1.out.2.2] at KR
            have HT3 := Lib.hid (HT.out.step hbP)
            have HB3 := Lib.hid (HB.out.trans (hbP.mono HB.out.size))
            clear oP hbP
            go_wp2_with (go_at_call 12; with_reducible refine (KR.out).mono ?_)
            rintro _ _ ⟨rfl, rfl⟩
            have HTB := Lib.hid (typ_bd HPZ.out)
            have HTSM := Lib.hid (typ_sum HPZ.out)
            rw [HTS.out] at HTB HTSM
            rw [HN.out] at HTSM
            have KS := Lib.hid (sum_any HT3.out (by have := HT3.out.1; rw [← HTS.out]; have := typ_len HPZ.out; omega) HTB.out)
            rw [HTSM.out] at KS
            go_wp2_with (go_at_call 20; ((with_reducible refine (KS.out).mono ?_); rintro e w' ⟨rfl, rfl⟩))
            go_ret
            exact ⟨rfl, HB3.out⟩
      · have hz : C = 1 := by rw [← HC0.out, if_neg (by rw [hp]; simp)]
        subst hz
        go_wp2
        go_ret
        exact ⟨rfl, HB.out⟩
  · have h7b : (C7 == 0) = false := by simpa using h7
    rcases Bool.eq_false_or_eq_true (permB zs) with hp | hp
    · have hz : C = 0 := by rw [← HC0.out, if_pos hp]
      subst hz
      have HPZ := Lib.hid hp
      have hn6 := (permB_bd hp).2.1
      obtain ⟨n, hn⟩ : ∃ n, zs.length = n := ⟨_, rfl⟩
      have HN := Lib.hid hn
      obtain ⟨cs, hcs⟩ : ∃ cs, cyclesOf.out zs = cs := ⟨_, rfl⟩
      have HCS := Lib.hid (show cycL zs = cs by rw [← hcs]; unfold cyclesOf.out; rw [if_pos hp])
      rw [hcs] at HC HM ⊢
      clear hcs
      obtain ⟨m, hm⟩ : ∃ m, cs.length = m := ⟨_, rfl⟩
      have HML := Lib.hid hm
      have hm6 : m ≤ 6 := by have := (cycL_bd hp).1; rw [HCS.out] at this; omega
      rw [hm] at HC HM ⊢
      rw [hn] at HA hn6 ⊢
      clear hn hm
      obtain ⟨ts, hts⟩ : ∃ ts, cycleTypeLaw.out zs = ts := ⟨_, rfl⟩
      have HTS := Lib.hid (show typL zs = ts by rw [← hts]; unfold cycleTypeLaw.out; rw [if_pos hp])
      rw [hts] at HT ⊢
      clear hts hp
      go_wp2
      go_loopw [30, 31] (fun s c wr => ∃ i : Nat, c = .int .i64 (i : Int) ∧ i ≤ m ∧ s = .int .i64 (lenS cs i : Int) ∧ Reads wr (.slice aa n ac) zs ∧ ReadsLL wr (.slice la1 m lc1) cs ∧ ReadsLL wr (.slice la2 m lc2) cs ∧ Reads wr (.slice sa2 ts.length sc2) ts ∧ Below w.heap.size w wr) (fun _ c _ => m - (intOf c).toNat)
      case atStart => exact ⟨0, rfl, by omega, rfl, HA.out, HC.out, HM.out, HT.out, HB.out⟩
      case round =>
        clear HA HC HM HT HB
        obtain ⟨i, rfl, hi, rfl, ha, hc, hmm, ht, hb⟩ := hrel
        have HA := Lib.hid ha
        have HC := Lib.hid hc
        have HM := Lib.hid hmm
        have HT := Lib.hid ht
        have HB := Lib.hid hb
        clear ha hc hmm ht hb
        have hls : lenS cs i ≤ 36 := by
          have h1 := cyc_sum HPZ.out
          rw [HCS.out] at h1
          have h2 := lenS_le cs i
          have := HN.out
          omega
        by_cases hlt : i < m
        · have him : i < cs.length := by rw [HML.out]; exact hlt
          have HLN := Lib.hid (lenS_next him)
          have HRW := Lib.hid (fun k hk => cyc_row HPZ.out (c := row cs i) (by rw [HCS.out]; exact row_mem him) (k := k) hk)
          obtain ⟨rl, hrl⟩ : ∃ rl, (row cs i).length = rl := ⟨_, rfl⟩
          have HRL := Lib.hid hrl
          have hrl6 : rl ≤ 36 := by
            have h1 := cyc_sum HPZ.out
            rw [HCS.out] at h1
            have h2 := lenS_le cs (i + 1)
            have h3 := lenS_next him
            have := HN.out
            omega
          clear hrl
          obtain ⟨g1, b1, d1, e3, _, c1, r1⟩ := HC.out.at (i := i) him
          obtain ⟨g2, b2, d2, e4, _, c2, r2⟩ := HM.out.at (i := i) him
          subst e3 e4
          rw [HRL.out] at c1 c2
          clear r1 r2
          go_wp2
          go_loopw [32] (fun c wr => ∃ k : Nat, c = .int .i64 (k : Int) ∧ k ≤ rl ∧ Reads wr (.slice aa n ac) zs ∧ ReadsLL wr (.slice (some ⟨g1, 0, none⟩) m lc1) cs ∧ ReadsLL wr (.slice (some ⟨g2, 0, none⟩) m lc2) cs ∧ Reads wr (.slice sa2 ts.length sc2) ts ∧ Below w.heap.size w wr) (fun c _ => rl - (intOf c).toNat)
          case atStart => exact ⟨0, rfl, by omega, HA.out, HC.out, HM.out, HT.out, HB.out⟩
          case round =>
            clear HA HC HM HT HB c1 c2
            obtain ⟨k, rfl, hk, ha, hc, hmm, ht, hb⟩ := hrel
            have HA := Lib.hid ha
            have HC := Lib.hid hc
            have HM := Lib.hid hmm
            have HT := Lib.hid ht
            have HB := Lib.hid hb
            clear ha hc hmm ht hb
            obtain ⟨g1', b1, d1, e3, _, c1, r1⟩ := HC.out.at (i := i) him
            obtain ⟨g2', b2, d2, e4, _, c2, r2⟩ := HM.out.at (i := i) him
            injection e3 with e3
            injection e3 with e3 _ _
            injection e4 with e4
            injection e4 with e4 _ _
            subst e3 e4
            rw [HRL.out] at c1 c2 r1
            by_cases hkl : k < rl
            · obtain ⟨⟨x0, x1⟩, hxy⟩ := HRW.out k (by rw [HRL.out]; exact hkl)
              rw [HRL.out] at hxy
              rw [HN.out] at x1
              obtain ⟨j, hj⟩ : ∃ j, (k + 1) % rl = j := ⟨_, rfl⟩
              have hji : ((k : Int) + 1) % (rl : Int) = (j : Int) := by rw [← hj, Int.natCast_emod, Int.natCast_add]; rfl
              have hjl : j < rl := by rw [← hj]; exact Nat.mod_lt _ (by omega)
              rw [hj] at hxy
              obtain ⟨q1, o1, hq1, y1⟩ := Reads.cellN r1 (k := k) (by rw [HRL.out]; exact hkl)
              subst hq1
              obtain ⟨q2, o2, hq2, y2⟩ := Reads.cellN r1 (k := j) (by rw [HRL.out]; exact hjl)
              injection hq2 with hq2
              injection hq2 with e5 e6 _
              subst e5 e6
              obtain ⟨x, hx⟩ : ∃ x, el (row cs i) k = x := ⟨_, rfl⟩
              obtain ⟨y, hy⟩ : ∃ y, el (row cs i) j = y := ⟨_, rfl⟩
              rw [hx] at x0 x1 hxy y1
              rw [hy] at hxy y2
              obtain ⟨X, rfl⟩ : ∃ X : Nat, x = (X : Int) := ⟨x.toNat, by omega⟩
              rw [Int.toNat_natCast] at hxy
              obtain ⟨q3, o3, hq3, y3⟩ := Reads.cellN HA.out (k := X) (by rw [HN.out]; omega)
              rw [hxy] at y3
              have hXn : X < n := by omega
              have hrl0 : ¬ (rl : Int) = 0 := by omega
              have R1 := Lib.hid r1
              clear hx hy hxy hj r1 r2
              subst hq3
              go_wp2
              go_quiet (fail)
              go_wp2
              go_roundw
              case rel => exact ⟨k + 1, by go_num, by omega, HA.out.step ⟨rfl, rfl, rfl, Nat.le_refl _, fun _ _ => rfl⟩, HC.out.step ⟨rfl, rfl, rfl, Nat.le_refl _, fun _ _ => rfl⟩, HM.out.step ⟨rfl, rfl, rfl, Nat.le_refl _, fun _ _ => rfl⟩, HT.out.step ⟨rfl, rfl, rfl, Nat.le_refl _, fun _ _ => rfl⟩, HB.out.trans ⟨rfl, rfl, rfl, Nat.le_refl _, fun _ _ => rfl⟩⟩
              case measure => simp [intOf]; omega
            · obtain rfl : k = rl := by omega
              clear r1 r2
              go_wp2
              go_roundw
              case rel => exact ⟨i + 1, by go_num, by omega, by rw [HLN.out, HRL.out]; rfl, HA.out, HC.out, HM.out, HT.out, HB.out⟩
              case measure => simp [intOf]; omega
        · obtain rfl : i = m := by omega
          have HLS := Lib.hid (show lenS cs i = n by
            have h1 := cyc_sum HPZ.out
            rw [HCS.out] at h1
            unfold lenS
            rw [List.take_of_length_le (by rw [HML.out]; exact Nat.le_refl _), h1, HN.out])
          rw [HLS.out]
          clear hls
          have W1 := Lib.hid (whole_ok HPZ.out)
          have KW := Lib.hid (powerPermutation.impl_any (e := 60) HA.out)
          rw [W1.out.1] at KW
          go_wp2_with (go_at_call 15; with_reducible refine KW.out.mono ?_)
          rintro _ wP ⟨vP, rfl, oP, hbP⟩
          have KR := Lib.hid (rankOf.impl_any oP.reads)
          rw [W1.out.2.1, W1.out.2.2] at KR
          have HT3 := Lib.hid (HT.out.step hbP)
          have HB3 := Lib.hid (HB.out.trans (hbP.mono HB.out.size))
          clear oP hbP
          go_wp2_with (go_at_call 12; with_reducible refine (KR.out).mono ?_)
          rintro _ _ ⟨rfl, rfl⟩
          have HTB := Lib.hid (typ_bd HPZ.out)
          have HTSM := Lib.hid (typ_sum HPZ.out)
          rw [HTS.out] at HTB HTSM
          rw [HN.out] at HTSM
          have KS := Lib.hid (sum_any HT3.out (by have := HT3.out.1; rw [← HTS.out]; have := typ_len HPZ.out; omega) HTB.out)
          rw [HTSM.out] at KS
          go_wp2_with (go_at_call 20; ((with_reducible refine (KS.out).mono ?_); rintro e w' ⟨rfl, rfl⟩))
          go_ret
          exact ⟨rfl, HB3.out⟩
    · have hz : C = 1 := by rw [← HC0.out, if_neg (by rw [hp]; simp)]
      subst hz
      go_wp2
      go_ret
      exact ⟨rfl, HB.out⟩

theorem own : ownKnob Try.prog.godebug = none := by kernel_rfl
theorem laidOut : laidOutB Try.prog = true := by kernel_rfl

set_option maxRecDepth 100000 in
theorem lifted (os : Os) (started : os.Started) (H : Type) (enc : TypeId × Value → H) :
    ReturnsInHanded {} Try.checked os 3 .any (Rows.fnCyclesSpec.pre6 enc Try.prog Try.f3 Rows.fnCyclesRow.domain false) (Rows.fnCyclesSpec.post enc Try.prog Try.f3 false true false false) := by
  refine returnsInHanded_of_change (C := Try.checked) own started (by kernel_rfl) Try.func3
    (ChangeSpec.witness6 (enc := enc) (C := Try.checked) false ⟨#[], #[.slice none 0 0], []⟩ 8 (by kernel_rfl) (by kernel_rfl) (by kernel_rfl) (by kernel_rfl)) ?_
  intro W base args ds gs before hval0 hW hcnd _
  have hval : ∀ (j : Nat) t v, Try.f3.params[j]? = some t → args[j]? = some v → Value.okWide Try.prog W .any base t v := hval0
  have hW' := hW
  obtain ⟨p, q, hA0, hV, rfl, hfz, hnd⟩ := hW
  have hA : DataW.TrodAll enc Try.prog W 0 (fun _ => true) true Try.f3.params.toList args.toList ds p := hA0
  rw [Try.params3] at hA hval
  obtain ⟨v0, vs0, d0, ds0, p0, q0, hargs, rfl, rfl, h0, r0⟩ := trodAll_cons hA
  obtain ⟨rfl, rfl, rfl⟩ := trodAll_nil r0
  obtain rfl : args = #[v0] := by cases args; simp_all
  obtain ⟨rfl, rfl⟩ := trodVars_none hV
  have k0 := h0
  have lt0 : ∀ x ∈ p0, x.block < W.heap.size := by obtain ⟨m, hm⟩ := k0; exact DataW.trod_lt m _ _ _ hm
  obtain ⟨a0, len0, cap0, rfl⟩ := okWide_slice Try.underlying22 (hval 0 22 v0 rfl rfl)
  obtain ⟨z0, w0⟩ : ∃ zs, IsRow .u8 W a0 len0 cap0 zs := by
    obtain ⟨fuel, hf⟩ := h0
    rcases open_ints Try.underlying22 Try.underlying5 (by kernel_rfl) hf with ⟨hcs, _⟩ | ⟨x, l, c, zs, hcs, _, hl, hm, hz, _, hcell, hwz⟩
    · simp [Value.cells] at hcs
      obtain ⟨rfl, rfl, rfl⟩ := hcs
      exact ⟨[], .inl ⟨rfl, rfl, rfl, rfl⟩⟩
    · simp [Value.cells] at hcs
      obtain ⟨rfl, rfl, rfl⟩ := hcs
      exact ⟨zs, .inr ⟨_, rfl, hl, hm, by simpa using hz, hcell, hwz⟩⟩
  clear hA0 hval0
  refine (walk a0 len0 cap0 z0 W w0).mono fun e W' ⟨he, bel⟩ => ?_
  subst he
  exact ⟨_, rfl, _, _, _, [], _, [], hW', trodAll_mk1 (shut_bool Try.underlying4 _), (trodAll_cons_mk (Below.trod laidOut (by kernel_rfl) (of_decide_eq_true (by kernel_rfl)) k0 bel lt0) trodAll_mk0), rfl, bel.frame _, fun h => by cases h⟩

theorem over : Rows.fnCyclesRow.holds Try.pinned (OpenSpec.ofChange Rows.fnCyclesSpec) :=
  OpenClaim.holds_of_wide 3 Try.f3 rfl rfl rfl rfl rfl rfl rfl ⟨rfl, rfl, rfl, rfl, rfl⟩ rfl rfl rfl rfl rfl (by kernel_rfl) Try.func3 (by kernel_rfl)
    (of_decide_eq_true (by kernel_rfl)) (by unfold Func.isWrapper; first | (rw [if_pos (by decide +kernel)]; kernel_rfl) | (rw [if_neg (by decide +kernel)]; exact ⟨rfl, rfl⟩))
    (fun os started H enc _ => lifted os started H enc)

theorem proved : Rows.FnCyclesSaid := over
#print axioms proved
end Go.Proofs.Ytaielmibofnddaa.cyclesLaw
