/- Contracts: the program's roots in a ring. -/
import Derived.Test.YtdkppikbneijaaaGk
namespace Go.Proofs.Ytdkppikbneijaaa
open Go.RowKit
set_option linter.unusedVariables false
set_option linter.unusedSimpArgs false

theorem expL_next {p : Int} {K : Nat} {L : List (Int × Nat)} {i : Nat} (h : i < L.length) : expL p K (L.take (i + 1)) = expL p K (L.take i) ++ arith L[i].1 (p ^ L[i].2) (p.toNat ^ (K - L[i].2)) := by
  rw [List.take_add_one, List.getElem?_eq_getElem h, Option.toList_some, expL_append]
  simp [expL]
def riC (p n : Int) (f : List Int) : Int := if 60 < rbS p n f then 3 else 0
def riV (p n : Int) (f : List Int) : List Int := if 60 < rbS p n f then [] else rootsR p n.toNat f
set_option maxHeartbeats 8000000 in
set_option maxRecDepth 100000 in
theorem rootsIn_any {p n : Int} {v : Value} {f : List Int} {w : World} (h : Reads w v f) (hr : ringB p n = true) (hf : Bd 1000000 f) (hl : f.length ≤ 9) :
    Calls Try.prog 17 #[.agg #[.int .i64 p, .int .i64 n], v] w (RetIC (riV p n f) (riC p n f) w) := by
  obtain ⟨⟨p1, p2⟩, ⟨n1, n2⟩, r2, r3⟩ := ring_bd hr
  have HSI := Lib.hid (sort_is (rootsR_rise p n.toNat f) (exp_perm hr f))
  have hok := rb_ok hr f
  have hmo := fun w => modulus_any p n w hr
  have HS := Lib.hid hr
  have HR := Lib.hid (h.step (below_box (.cells #[.int .i64 p, .int .i64 n] 27)))
  have HF := Lib.hid hf
  by_cases h60 : 60 < rbS p n f
  · have HC := Lib.hid (show riC p n f = 3 by rw [riC, if_pos h60])
    have HV := Lib.hid (show riV p n f = [] by rw [riV, if_pos h60])
    clear h hr hok hmo hf
    go_enter Try.func17, Try.ntmps17
    go_wp2_with (go_at_call 27; with_reducible refine (rootBalls_any HR.out HS.out HF.out hl).mono ?_)
    rintro _ w3 ⟨v3, rfl, o3, hb3⟩
    have hs3 := hb3.size
    have HB3 := Lib.hid ((below_box (.cells #[.int .i64 p, .int .i64 n] 27)).trans (hb3.mono (by simp)))
    clear o3 hb3
    go_wp2
    go_ret2
    exact ⟨.slice none 0 0, by rw [HC.out]; rfl, by rw [HV.out]; exact Own.nil, HB3.out⟩
  · have HC := Lib.hid (show riC p n f = 0 by rw [riC, if_neg h60])
    have HV := Lib.hid (show riV p n f = rootsR p n.toNat f by rw [riV, if_neg h60])
    obtain ⟨K, hK⟩ : ∃ K : Nat, n.toNat = K := ⟨_, rfl⟩
    have hS : rbS p n f = sumB p K (rbL p n f) := by rw [rbS, hK]
    rw [hK] at r2 r3 hok hmo HSI HV
    obtain ⟨L, hL⟩ : ∃ L, rbL p n f = L := ⟨_, rfl⟩
    have HRB := Lib.hid (show ∀ (v : Value) (w : World), Reads w v f → Calls Try.prog 27 #[.agg #[.int .i64 p, .int .i64 n], v] w (fun e w' => ∃ u, e = .returned (.tuple #[u, .int .i64 ((sumB p K L : Nat) : Int)]) ∧ BallOwn w' w.heap.size u L ∧ Below w.heap.size w w') from fun v w hR => (rootBalls_any hR HS.out HF.out hl).mono fun e w' hh => by rw [RetRB, hS, hL] at hh; exact hh)
    rw [hL] at hok hS HSI
    rw [hS] at h60
    have HOK := Lib.hid hok.one
    obtain ⟨M, hM⟩ : ∃ M, p ^ K = M := ⟨_, rfl⟩
    rw [hM] at r2 r3 hmo
    have HM := Lib.hid hM
    have HMO := Lib.hid hmo
    have hK29 : K ≤ 29 := by omega
    have h60b : decide (60 < ((sumB p K L : Nat) : Int)) = false := by simp; omega
    have h60c : ((sumB p K L : Nat) : Int) ≤ 60 := by omega
    clear h hr hok hmo hf hL hS hM hK h60
    go_enter Try.func17, Try.ntmps17
    go_wp2_with (go_at_call 27; with_reducible refine (HRB.out _ _ HR.out).mono ?_)
    rintro _ w5 ⟨v5, rfl, o5, hb5⟩
    obtain ⟨e3, e4⟩ := box_cells hb5
    have hs5 := hb5.size
    simp at hs5
    have HB5 := Lib.hid ((below_box (.cells #[.int .i64 p, .int .i64 n] 27)).trans (hb5.mono (by simp)))
    have HO5 := Lib.hid o5
    obtain ⟨ad, cp, rfl, hcell⟩ := BallOwn.open o5
    have hlt5 : w.heap.size < w5.heap.size := by omega
    obtain ⟨M0, hM0⟩ : ∃ M0, L.length = M0 := ⟨_, rfl⟩
    have hlen2 := sumB_len (show 1 ≤ p by omega) K L
    rw [hM0] at hcell HO5 hlen2 ⊢
    have HM0 := Lib.hid hM0
    have HC5 := Lib.hid hcell
    clear o5 hb5 hM0 hcell
    go_wp2
    go_loopw [8, 22] (fun l c wr => ∃ i : Nat, c = .int .i64 (i : Int) ∧ i ≤ M0 ∧ Own wr w5.heap.size l (expL p K (L.take i)) ∧ Below w5.heap.size w5 wr) (fun _ c _ => M0 - (intOf c).toNat)
    case atStart => exact ⟨0, rfl, by omega, Own.nil, Below.refl _ _⟩
    case round =>
      obtain ⟨i, rfl, hi, hown, hbel⟩ := hrel
      have HW := Lib.hid hbel
      have hsw := hbel.size
      have e1 := (hbel.cell (p := ⟨w.heap.size, 0, none⟩) hlt5).trans e3
      have e2 := (hbel.cell (p := ⟨w.heap.size, 1, none⟩) hlt5).trans e4
      have HO6 := Lib.hid (HO5.out.step hbel)
      have HO := Lib.hid hown
      clear hbel hown
      by_cases hlt : i < M0
      · obtain ⟨g, rfl, hg1, hg2⟩ := HC5.out i hlt
        obtain ⟨g1, g2⟩ := ballCells_get (L := L) (i := i) (by rw [HM0.out]; exact hlt)
        have c1 := BallOwn.news HO6.out _ _ g1
        have c2 := BallOwn.news HO6.out _ _ g2
        have hT := sumB_take (p := p) (K := K) (L := L) (i := i) (by rw [HM0.out]; exact hlt)
        have hX := expL_next (p := p) (K := K) (L := L) (i := i) (by rw [HM0.out]; exact hlt)
        have hmem : L[i]'(by rw [HM0.out]; exact hlt) ∈ L := List.getElem_mem _
        obtain ⟨d0, d1, d2, d3, _⟩ := HOK.out _ hmem
        have htl := sumB_take_le (p := p) (K := K) L (i + 1)
        obtain ⟨⟨br, bd⟩, hb⟩ : ∃ b, L[i]'(by rw [HM0.out]; exact hlt) = b := ⟨_, rfl⟩
        rw [hb] at c1 c2 hT hX d0 d1 d2 d3
        simp only [Addr.add_lit, Nat.zero_add] at c1 c2 d0 d1 d2 d3 hT hX
        have hqs : p ^ bd * ((p.toNat ^ (K - bd) : Nat) : Int) = M := by
          rw [Int.natCast_pow, Int.toNat_of_nonneg (by omega), ← Int.pow_add, show bd + (K - bd) = K by omega, HM.out]
        have hq1 := pow_pos' (show 1 ≤ p by omega) bd
        have hqm := pow_mono (show 1 ≤ p by omega) d1
        rw [HM.out] at hqm
        have HP := Lib.hid (show p ^ ((bd : Int)).toNat = p ^ bd by rw [Int.toNat_natCast])
        have hel := expL_len p K (L.take i)
        obtain ⟨q, hq⟩ : ∃ q, p ^ bd = q := ⟨_, rfl⟩
        obtain ⟨s, hs⟩ : ∃ s, p.toNat ^ (K - bd) = s := ⟨_, rfl⟩
        obtain ⟨E, hE⟩ : ∃ E, expL p K (L.take i) = E := ⟨_, rfl⟩
        simp only [hq, hs, hE] at d3 hqs hq1 hqm HP hT hX hel HO
        have HX := Lib.hid hX
        have hes : E.length + s ≤ 60 := by omega
        clear hmem hb g1 g2 hq hs hE hT hX hel htl
        have hba : Below wr.heap.size wr (wr.alloc (.cells #[.int .i64 br, .int .i64 (bd : Int)] 46)) := below_box _
        have k1 := (hba.cell (p := ⟨w.heap.size, 0, none⟩) (by show w.heap.size < _; omega)).trans e1
        have k2 := (hba.cell (p := ⟨w.heap.size, 1, none⟩) (by show w.heap.size < _; omega)).trans e2
        have k3 : (wr.alloc (.cells #[.int .i64 br, .int .i64 (bd : Int)] 46)).cell? ⟨wr.heap.size, 0, none⟩ = some (.int .i64 br) := by simp
        have k4 : (wr.alloc (.cells #[.int .i64 br, .int .i64 (bd : Int)] 46)).cell? ⟨wr.heap.size, 1, none⟩ = some (.int .i64 (bd : Int)) := by simp
        have HOa := Lib.hid (HO.out.step hba)
        have HWa := Lib.hid (HW.out.trans (hba.mono hsw))
        have HBa := Lib.hid (show BallOwn (wr.alloc (.cells #[.int .i64 br, .int .i64 (bd : Int)] 46)) w5.heap.size (.slice (some ⟨wr.heap.size, 0, none⟩) 1 1) [(br, bd)] from BallOwn.one hsw br bd)
        have hsa : wr.heap.size < (wr.alloc (.cells #[.int .i64 br, .int .i64 (bd : Int)] 46)).heap.size := by simp
        clear hba
        go_wp2
        generalize (wr.alloc (.cells #[.int .i64 br, .int .i64 (bd : Int)] 46)) = wa at *
        generalize wr.heap.size = b0 at *
        go_loopw [8, 11] (fun l c wr2 => ∃ (k : Nat) (Y : Int), Y = q * k ∧ c = .int .i64 (br + Y) ∧ k ≤ s ∧ Own wr2 w5.heap.size l (E ++ arith br q k) ∧ BallOwn wr2 w5.heap.size (.slice (some ⟨b0, 0, none⟩) 1 1) [(br, bd)] ∧ Below w5.heap.size w5 wr2) (fun _ c _ => (M + q - intOf c).toNat)
        case atStart => exact ⟨0, 0, by simp, by simp, by omega, by simpa [arith] using HOa.out, HBa.out, HWa.out⟩
        case round =>
          obtain ⟨k, Y, hY, rfl, hk, hown, hbal, hbel⟩ := hrel
          have j1 := (hbel.cell (p := ⟨w.heap.size, 0, none⟩) hlt5).trans e3
          have j2 := (hbel.cell (p := ⟨w.heap.size, 1, none⟩) hlt5).trans e4
          have HO8 := Lib.hid hown
          have HW8 := Lib.hid hbel
          have hs8 := hbel.size
          clear hown hbel HOa HBa k1 k2 k3 k4
          have y0 : 0 ≤ Y := by rw [hY]; exact Int.mul_nonneg (by omega) (by omega)
          have y1 : k < s → Y + q ≤ M := fun h => by
            have := Int.mul_le_mul_of_nonneg_left (show (k : Int) + 1 ≤ s by omega) (show 0 ≤ q by omega)
            rw [Int.mul_add, Int.mul_one] at this
            omega
          have y2 : ¬ k < s → Y = M := fun h => by rw [hY, ← hqs, show s = k by omega]
          have HY := Lib.hid hY
          clear hY hqs
          go_wp2_with (go_at_call 28; with_reducible refine (HMO.out _).mono ?_)
          rintro _ w9 ⟨rfl, hb9⟩
          have i1 := (hb9.cell (p := ⟨w.heap.size, 0, none⟩) (by show w.heap.size < _; omega)).trans j1
          have i2 := (hb9.cell (p := ⟨w.heap.size, 1, none⟩) (by show w.heap.size < _; omega)).trans j2
          have hs9 := hb9.size
          have HO9 := Lib.hid (HO8.out.step hb9)
          have HW9 := Lib.hid (HW8.out.trans (hb9.mono hs8))
          have HBV := Lib.hid (hbal.step hb9)
          clear hb9 j1 j2 hbal
          by_cases hks : k < s
          · have y3 := y1 hks
            have hL : (E ++ arith br q k).length + 1 ≤ 1099511627776 := by rw [List.length_append, arith_len]; omega
            have hN : E ++ (arith br q k ++ [br + Y]) = E ++ arith br q (k + 1) := by rw [arith, HY.out]
            have HN := Lib.hid hN
            clear hN y1 y2
            go_wp2_with (at_builtin; refine append_oneG _ rfl _ _ rfl rfl HO9.out hL (by omega) rfl rfl ?_)
            intro vv w10 hown1 hg1' hbel1
            rw [HN.out] at hown1
            have hbv := HBV.out.kept hg1' (own_types (by decide) HBV.out HO9.out.2)
            have HBW := Lib.hid hbv
            have n1 := hbv.news 0 _ rfl
            have n2 := hbv.news 1 _ rfl
            simp only [Addr.add_lit, Nat.zero_add] at n1 n2
            clear hbv hg1'
            have HO10 := Lib.hid hown1
            have m1 := (hbel1.cell (p := ⟨w.heap.size, 0, none⟩) hlt5).trans i1
            have HB10 := Lib.hid (HW9.out.trans hbel1)
            clear hown1 hbel1 i1 i2
            go_wp2_with (go_at_call 29; ((with_reducible refine (calls_int (power_any p (bd : Int) _ (by omega) (by rw [HP.out]; omega) (by rw [HP.out]; omega)) HP.out).mono ?_); rintro e w' ⟨rfl, rfl⟩))
            go_roundw
            case rel => exact ⟨k + 1, Y + q, by rw [HY.out, Int.natCast_add, Int.mul_add]; simp, by go_num, by omega, HO10.out, HBW.out, HB10.out⟩
            case measure => simp [intOf]; omega
          · have y3 := y2 hks
            obtain rfl : k = s := by omega
            have HA := Lib.hid (show Own w9 w5.heap.size u8 (expL p K (L.take (i + 1))) by rw [HX.out]; exact HO9.out)
            have HB9 := HW9
            clear y1 y2
            go_wp2
            go_roundw
            case rel => exact ⟨i + 1, by go_num, by omega, HA.out, HB9.out⟩
            case measure => simp [intOf]; omega
      · have HE := Lib.hid (show expL p K (L.take i) = expL p K L by rw [List.take_of_length_le (by rw [HM0.out]; omega)])
        rw [HE.out] at HO
        go_wp2_with (go_at_call 30; with_reducible refine (sort_own HO.out).mono ?_)
        rintro _ w7 ⟨rfl, o7, g7⟩
        rw [HSI.out] at o7
        have HO7 := Lib.hid o7
        have HB7 := Lib.hid (HW.out.grown g7 hsw (fun k hk => (HO.out.lt k hk).1))
        clear o7 g7
        go_wp2
        go_ret2
        exact ⟨u8, by rw [HC.out]; rfl, by rw [HV.out]; exact HO7.out.mono (by omega), HB5.out.trans (HB7.out.mono (by omega))⟩

theorem ri_rr {p n : Int} {f : List Int} (h1 : ringB p n = true) (h2 : polyB f = true) : rrC p n f = riC p n f ∧ rrV p n f = riV p n f := by
  have hc : rrC p n f = riC p n f := by simp only [rrC, riC, h1, h2, Bool.and_self, if_true]
  refine ⟨hc, ?_⟩
  rw [rrV, hc, riC, riV]
  by_cases h : 60 < rbS p n f <;> simp [h]
set_option maxHeartbeats 2000000 in
theorem RootsInRing_any {p n : Int} {v : Value} {f : List Int} {w : World} (h : Reads w v f) (hn : n ≤ 9223372036854775807) (hn' : -9223372036854775808 ≤ n) :
    Calls Try.prog 7 #[.agg #[.int .i64 p, .int .i64 n], v] w (RetIC (rrV p n f) (rrC p n f) w) := by
  have HR := Lib.hid (h.step (below_box (.cells #[.int .i64 p, .int .i64 n] 27)))
  clear h
  rcases Bool.eq_false_or_eq_true (ringB p n) with hs | hs
  · have HS := Lib.hid hs
    clear hs
    rcases Bool.eq_false_or_eq_true (polyB f) with hp | hp
    · have HP := Lib.hid hp
      obtain ⟨p9, hfb, _⟩ := polyB_bd hp
      have HF := Lib.hid (Bd.of (show (0 : Int) ≤ 1000000 by omega) hfb)
      obtain ⟨hc, hv⟩ := ri_rr HS.out hp
      have HC := Lib.hid hc
      have HV := Lib.hid hv
      clear hp hfb hc hv
      go_enter Try.func7, Try.ntmps7
      go_wp2_with (go_at_call 15; with_reducible refine (calls_bool (IsRing_any _ _ _ hn hn') HS.out).mono ?_)
      rintro _ w1 ⟨rfl, hb1⟩
      obtain ⟨c1, c2⟩ := box_cells hb1
      have HR1 := Lib.hid (HR.out.step hb1)
      have HB1 := Lib.hid (show Below w.heap.size w w1 from (below_box _).trans (hb1.mono (by simp)))
      clear hb1
      go_wp2_with (first | (go_at_call 16; ((with_reducible refine (calls_bool (IsPolynomial_any HR1.out) HP.out).mono ?_); rintro e w' ⟨rfl, rfl⟩)) | (go_at_call 17; with_reducible refine (rootsIn_any HR1.out HS.out HF.out p9).mono ?_))
      rintro _ w2 ⟨v2, rfl, o2, hb2⟩
      have HB2 := Lib.hid (HB1.out.trans (hb2.mono HB1.out.size))
      have HO2 := Lib.hid o2
      clear o2 hb2
      go_wp2
      go_ret2
      exact ⟨v2, by rw [HC.out]; rfl, by rw [HV.out]; exact HO2.out.mono HB1.out.size, HB2.out⟩
    · have HP := Lib.hid hp
      clear hp
      go_enter Try.func7, Try.ntmps7
      go_wp2_with (go_at_call 15; with_reducible refine (calls_bool (IsRing_any _ _ _ hn hn') HS.out).mono ?_)
      rintro _ w1 ⟨rfl, hb1⟩
      have HR1 := Lib.hid (HR.out.step hb1)
      go_wp2_with (go_at_call 16; ((with_reducible refine (calls_bool (IsPolynomial_any HR1.out) HP.out).mono ?_); rintro e w' ⟨rfl, rfl⟩))
      go_ret2
      exact ⟨.slice none 0 0, by simp [rrC, HS.out, HP.out], by simpa [rrV, rrC, HS.out, HP.out] using Own.nil, (by repeat (first | assumption | exact Below.refl _ _ | exact below_box _ | refine Below.drew ?_ | refine Below.setCell ?_ (by first | (simp; done) | (simp; omega)) _ | (refine below_step (by assumption) (by first | omega | (simp; done) | (simp; omega)) ?_) | (refine Below.alloc ?_ (by first | omega | (simp; done) | (simp; omega)) _)))⟩
  · have HS := Lib.hid hs
    clear hs
    go_enter Try.func7, Try.ntmps7
    go_wp2_with (go_at_call 15; with_reducible refine (calls_bool (IsRing_any _ _ _ hn hn') HS.out).mono ?_)
    rintro _ w1 ⟨rfl, hb1⟩
    go_wp2
    go_ret2
    exact ⟨.slice none 0 0, by simp [rrC, HS.out], by simpa [rrV, rrC, HS.out] using Own.nil, (by repeat (first | assumption | exact Below.refl _ _ | exact below_box _ | refine Below.drew ?_ | refine Below.setCell ?_ (by first | (simp; done) | (simp; omega)) _ | (refine below_step (by assumption) (by first | omega | (simp; done) | (simp; omega)) ?_) | (refine Below.alloc ?_ (by first | omega | (simp; done) | (simp; omega)) _)))⟩

end Go.Proofs.Ytdkppikbneijaaa
