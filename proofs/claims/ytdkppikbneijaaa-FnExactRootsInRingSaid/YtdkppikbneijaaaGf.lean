/- Contract: the balls of roots. -/
import Derived.Test.YtdkppikbneijaaaGe
namespace Go.Proofs.Ytdkppikbneijaaa
open Go.RowKit
set_option linter.unusedVariables false
set_option linter.unusedSimpArgs false

theorem div_in {F : List Int} {P q : Int} (hq : 1 ≤ q) (hF : In P F) : In P (F.map fun c => c / q) := by
  intro k
  by_cases h : k < F.length
  · have : el (F.map fun c => c / q) k = el F k / q := by simp [el, List.getElem?_eq_getElem h]
    rw [this]
    have h1 := hF k
    have h2 := Int.ediv_nonneg h1.1 (show 0 ≤ q by omega)
    have h3 := Int.ediv_le_self q h1.1
    omega
  · rw [el_out (by simpa using h)]
    have := hF k
    omega
theorem div_next {F : List Int} {q : Int} {k : Nat} (h : k < F.length) : (F.map fun c => c / q).take k ++ [el F k / q] = (F.map fun c => c / q).take (k + 1) := by
  have : el (F.map fun c => c / q) k = el F k / q := by simp [el, List.getElem?_eq_getElem h]
  rw [← this, take_next (by simpa using h)]
theorem rtL_max {p : Int} {f : List Int} : (rtL p f p.toNat).length ≤ p.toNat := rtL_len p f _

/-- What is said of the program's balls with so much fuel. -/
def BallsAt (p : Int) (m n : Nat) : Prop := ∀ (F : List Int) (k : Nat) (r : Int) (t : Nat) (v : Value) (w : World), Reads w v F → In (p ^ k) F → F.length ≤ 9 → k ≤ m → k ≤ 1000 → t ≤ m → m ≤ 1000 → BCond p n F k t m → 0 ≤ r → r < p ^ t →
    Calls Try.prog 36 #[.int .i64 p, v, .int .i64 (k : Int), .agg #[.int .i64 r, .int .i64 (t : Int)]] w (RetBalls (ballsL p n F k r t) w)
set_option maxRecDepth 100000 in
set_option maxHeartbeats 16000000 in
theorem balls_step {p : Int} (hpr : primeB p = true) (hp : p ≤ 97) {m : Nat} (hm : p ^ m ≤ 1000000000) (n : Nat) (hih : BallsAt p m n) : BallsAt p m (n + 1) := by
  intro F k r t v w h hF hl hkm hk9 htm hm9 hc hr0 hr1
  have hpr0 := hpr
  have p2 := (primeB_iff.1 hpr).1
  have ht := pow_mono (show 1 ≤ p by omega) htm
  have hk := pow_mono (show 1 ≤ p by omega) hkm
  have hF9 : Bd 1000000000 F := fun i => by have := hF i; omega
  have hB := hc.ok hpr hr0 hr1
  have hlen := balls_len (show 1 ≤ p by omega) hB
  have hmN : p.toNat ^ m ≤ 1000000000 := by
    have : ((p.toNat ^ m : Nat) : Int) = p ^ m := by rw [Int.natCast_pow, Int.toNat_of_nonneg (by omega)]
    omega
  obtain ⟨ad, cap, rfl, h1, h2⟩ := reads_nil_eq h
  obtain ⟨N, hN⟩ : ∃ N, F.length = N := ⟨_, rfl⟩
  rw [hN] at h h1 hl ⊢
  have HN := Lib.hid hN
  have HR := Lib.hid h
  have HR0 := Lib.hid (h.step (below_box (.cells #[.int .i64 r, .int .i64 (t : Int)] 46)))
  have HF := Lib.hid hF
  have HF9 := Lib.hid hF9
  have HC := Lib.hid hc
  have HPR := Lib.hid hpr
  have IH := Lib.hid hih
  have HPT := Lib.hid hr1
  clear hih h h2 hN hF hF9 hc hpr hr1 hB
  by_cases hz : contL F = 0
  · have HZ := Lib.hid hz
    have HE := Lib.hid (show ballsL p (n + 1) F k r t = [(r, t)] by rw [ballsL, if_pos (.inl hz)])
    clear hz
    go_enter Try.func36, Try.ntmps36
    go_wp2_with (go_at_call 40; with_reducible refine (calls_int (content_any HR0.out HF9.out ⟨by omega, by omega⟩) HZ.out).mono ?_)
    rintro _ w1 ⟨rfl, hb1⟩
    obtain ⟨c1, c2⟩ := box_cells hb1
    have hs1 := hb1.size
    simp at hs1
    have HB1 := Lib.hid (show Below w.heap.size w w1 from (below_box _).trans (hb1.mono (by simp)))
    clear hb1
    go_wp2
    go_ret
    rw [HE.out]
    exact ⟨_, rfl, BallOwn.one HB1.out.size r t, HB1.out.alloc HB1.out.size _⟩
  · have hcb := cont_bd (show (0:Int) ≤ 1000000000 by omega) HF9.out F.length
    rw [List.take_of_length_le (Nat.le_refl _)] at hcb
    by_cases hv : k ≤ vp p (contL F)
    · have HE := Lib.hid (show ballsL p (n + 1) F k r t = [(r, t)] by rw [ballsL, if_pos (.inr hv)])
      have HZ := Lib.hid hz
      have hzb : (contL F == 0) = false := by simpa using hz
      have hz0 : ¬ contL F = 0 := hz
      obtain ⟨V, hV⟩ : ∃ V, vp p (contL F) = V := ⟨_, rfl⟩
      rw [hV] at hv
      have HV := Lib.hid (show (vp p (contL F) : Int) = (V : Int) by rw [hV])
      clear hz hV
      go_enter Try.func36, Try.ntmps36
      go_wp2_with (go_at_call 40; with_reducible refine (content_any HR0.out HF9.out ⟨by omega, by omega⟩).mono ?_)
      rintro _ w1 ⟨rfl, hb1⟩
      obtain ⟨c1, c2⟩ := box_cells hb1
      have hs1 := hb1.size
      simp at hs1
      have HB1 := Lib.hid (show Below w.heap.size w w1 from (below_box _).trans (hb1.mono (by simp)))
      clear hb1
      go_wp2_with (go_at_call 41; ((with_reducible refine (calls_int (valuation_any (contL F) p _ HZ.out (by omega) (by omega) p2 (by omega)) HV.out).mono ?_); rintro e w' ⟨rfl, rfl⟩))
      go_ret
      rw [HE.out]
      exact ⟨_, rfl, BallOwn.one HB1.out.size r t, HB1.out.alloc HB1.out.size _⟩
    · have HNX := Lib.hid (fun a ha => bcond_next hpr0 HC.out hr0 HPT.out hz (by omega) (a := a) ha)
      have hE : ballsL p (n + 1) F k r t = (rtL p (F.map fun c => c / p ^ vp p (contL F)) p.toNat).flatMap fun a => ballsL p n (subL (p ^ (k - vp p (contL F))) a p (F.map fun c => c / p ^ vp p (contL F))) (k - vp p (contL F)) (r + a * p ^ t) (t + 1) := by
        rw [ballsL, if_neg (by rintro (h | h); exact hz h; exact hv h)]
      have HZ := Lib.hid hz
      have hzb : (contL F == 0) = false := by simpa using hz
      have hz0 : ¬ contL F = 0 := hz
      obtain ⟨V, hV⟩ : ∃ V, vp p (contL F) = V := ⟨_, rfl⟩
      have HV := Lib.hid (show (vp p (contL F) : Int) = (V : Int) by rw [hV])
      rw [hV] at hv HNX hE
      have hvk : V < k := by omega
      have hq1 := pow_pos' (show 1 ≤ p by omega) V
      have hq2 := pow_mono (show 1 ≤ p by omega) (show V ≤ k by omega)
      have hm1 := pow_pos' (show 1 ≤ p by omega) (k - V)
      have hm2 := pow_mono (show 1 ≤ p by omega) (show k - V ≤ k by omega)
      have hpt1 := pow_pos' (show 1 ≤ p by omega) t
      obtain ⟨q, hq⟩ : ∃ q, p ^ V = q := ⟨_, rfl⟩
      obtain ⟨mm, hmm⟩ : ∃ mm, p ^ (k - V) = mm := ⟨_, rfl⟩
      obtain ⟨P, hP⟩ : ∃ P, p ^ t = P := ⟨_, rfl⟩
      rw [hq] at HNX hE hq1 hq2
      rw [hmm] at HNX hE hm1 hm2
      rw [hP] at HNX hE hpt1 ht
      obtain ⟨g, hg⟩ : ∃ g, (F.map fun c => c / q) = g := ⟨_, rfl⟩
      have hgl : g.length = N := by rw [← hg, List.length_map, HN.out]
      have hgi : In (p ^ k) g := by rw [← hg]; exact div_in hq1 HF.out
      rw [hg] at HNX hE
      have HGL := Lib.hid hgl
      have HGI := Lib.hid hgi
      have HG9 := Lib.hid (show Bd 1000000000 g from fun i => by have := hgi i; omega)
      have HG := Lib.hid hg
      have HQ := Lib.hid (show p ^ ((V : Int)).toNat = q by rw [Int.toNat_natCast]; exact hq)
      have HMM := Lib.hid (show p ^ ((k : Int) - (V : Int)).toNat = mm by rw [← hmm]; congr 1; omega)
      have HMP := Lib.hid hmm
      have HP := Lib.hid (show p ^ ((t : Int)).toNat = P by rw [Int.toNat_natCast]; exact hP)
      have HPP := Lib.hid hP
      obtain ⟨bl, hbl⟩ : ∃ bl : Int → List (Int × Nat), (fun a => ballsL p n (subL mm a p g) (k - V) (r + a * P) (t + 1)) = bl := ⟨_, rfl⟩
      rw [hbl] at hE
      have HBL := Lib.hid (fun a => congrFun hbl a)
      have hrl := rtL_len p g p.toNat
      obtain ⟨rts, hrts⟩ : ∃ rts, rtL p g p.toNat = rts := ⟨_, rfl⟩
      have HRT := Lib.hid hrts
      rw [hrts] at HNX hE hrl
      rw [hE] at hlen ⊢
      have hlen' := fun i => Nat.le_trans (flat_le (bl := bl) (L := rts) i) hlen
      have HLN := Lib.hid hlen'
      have hq0 : ¬ q = 0 := by omega
      have hnk : ¬ ((k : Int) ≤ (V : Int)) := by omega
      clear hz hv hV hE hgl hgi hg hbl hrts hlen hlen' hq hmm hP
      go_enter Try.func36, Try.ntmps36
      go_wp2_with (go_at_call 40; with_reducible refine (content_any HR0.out HF9.out ⟨by omega, by omega⟩).mono ?_)
      intro e0 w1 he hb1
      subst he
      replace hb1 : Below (w.alloc (.cells #[.int .i64 r, .int .i64 (t : Int)] 46)).heap.size (w.alloc (.cells #[.int .i64 r, .int .i64 (t : Int)] 46)) w1 := by simpa using hb1
      obtain ⟨c1, c2⟩ := box_cells hb1
      have hs1 := hb1.size
      simp at hs1
      have HB1 := Lib.hid (show Below w.heap.size w w1 from (below_box _).trans (hb1.mono (by simp)))
      clear hb1
      go_wp2_with (go_at_call 41; ((with_reducible refine (calls_int (valuation_any (contL F) p _ HZ.out (by omega) (by omega) p2 (by omega)) HV.out).mono ?_); rintro e w' ⟨rfl, rfl⟩))
      go_loopw [11, 37] (fun l c wr => ∃ i : Nat, c = .int .i64 (i : Int) ∧ i ≤ N ∧ Own wr w1.heap.size l (g.take i) ∧ Below w1.heap.size w1 wr) (fun _ c _ => N - (intOf c).toNat)
      case atStart => exact ⟨0, rfl, by omega, Own.nil, Below.refl _ _⟩
      case round =>
        obtain ⟨i, rfl, hi, hown, hbel⟩ := hrel
        have HO := Lib.hid hown
        have HW := Lib.hid hbel
        clear hown hbel
        have HR1 := Lib.hid ((HR.out.step HB1.out).step HW.out)
        have e1 := (HW.out.cell (p := ⟨w.heap.size, 0, none⟩) (by show w.heap.size < _; omega)).trans c1
        have e2 := (HW.out.cell (p := ⟨w.heap.size, 1, none⟩) (by show w.heap.size < _; omega)).trans c2
        have hsw := HW.out.size
        by_cases hlt : i < N
        · obtain ⟨b1, o1, rfl, hc⟩ := HR1.out.at (k := i) (by rw [HN.out]; exact hlt)
          have hfi := HF.out i
          have hL : (g.take i).length + 1 ≤ 1099511627776 := by rw [List.length_take]; omega
          go_wp2_with (first | (go_at_call 29; ((with_reducible refine (calls_int (power_any p (V : Int) _ (by omega) (by rw [HQ.out]; omega) (by rw [HQ.out]; omega)) HQ.out).mono ?_); rintro e w' ⟨rfl, rfl⟩)) | (at_builtin; refine append_one _ rfl _ _ rfl rfl HO.out hL HW.out.size rfl ?_))
          intro vv w2 hown1 hbel1
          rw [← HG.out, div_next (by rw [HN.out]; exact hlt), HG.out] at hown1
          have HO1 := Lib.hid hown1
          have HW1 := Lib.hid (HW.out.trans hbel1)
          clear hown1 hbel1 e1 e2
          go_wp2
          go_roundw
          case rel => exact ⟨i + 1, by go_num, by omega, HO1.out, HW1.out⟩
          case measure => simp [intOf]; omega
        · have HE := Lib.hid (show Own wr w1.heap.size u11 g by have := HO.out; rw [List.take_of_length_le (by rw [HGL.out]; omega)] at this; exact this)
          clear HO HR1
          go_wp2_with (first | (go_at_call 29; ((with_reducible refine (calls_int (power_any p ((k : Int) - (V : Int)) _ (by omega) (by rw [HMM.out]; omega) (by rw [HMM.out]; omega)) HMM.out).mono ?_); rintro e w' ⟨rfl, rfl⟩)) | (go_at_call 42; with_reducible refine (rootsByZ_any HE.out.reads HG9.out ⟨p2, hp⟩ (by rw [HGL.out]; omega)).mono ?_))
          rintro _ w3 ⟨v3, rfl, o3, hb3⟩
          rw [HRT.out] at o3
          have e3 := (hb3.cell (p := ⟨w.heap.size, 0, none⟩) (by show w.heap.size < _; omega)).trans e1
          have e4 := (hb3.cell (p := ⟨w.heap.size, 1, none⟩) (by show w.heap.size < _; omega)).trans e2
          have hs3 := hb3.size
          have HE3 := Lib.hid (HE.out.step hb3).reads
          have HB3 := Lib.hid ((HB1.out.trans (HW.out.mono HB1.out.size)).trans (hb3.mono (show w.heap.size ≤ wr.heap.size by omega)))
          obtain ⟨a3, k3, rfl, l3, _⟩ := reads_nil_eq o3.reads
          obtain ⟨ag, cg, hvg, lg, _⟩ := reads_nil_eq HE3.out
          have HO3 := Lib.hid o3.reads
          have hsw3 : w.heap.size < w3.heap.size := by omega
          rw [HGL.out] at hvg lg
          subst hvg
          clear o3 hb3 HE HW e1 e2 c1 c2
          obtain ⟨M0, hM0⟩ : ∃ M0, rts.length = M0 := ⟨_, rfl⟩
          rw [hM0] at hrl HO3 l3 ⊢
          have HM0 := Lib.hid hM0
          clear hM0
          go_wp2
          go_loopw [15, 59] (fun l c wr => ∃ i : Nat, c = .int .i64 (i : Int) ∧ i ≤ M0 ∧ BallOwn wr w3.heap.size l ((rts.take i).flatMap bl) ∧ Below w3.heap.size w3 wr) (fun _ c _ => M0 - (intOf c).toNat)
          case atStart => exact ⟨0, rfl, by omega, BallOwn.nil, Below.refl _ _⟩
          case round =>
            clear hsw hs1
            obtain ⟨i, rfl, hi, hown, hbel⟩ := hrel
            have HO := Lib.hid hown
            have HW := Lib.hid hbel
            clear hown hbel
            have hsw := HW.out.size
            have e1 := (HW.out.cell (p := ⟨w.heap.size, 0, none⟩) hsw3).trans e3
            have e2 := (HW.out.cell (p := ⟨w.heap.size, 1, none⟩) hsw3).trans e4
            have HRS := Lib.hid (HO3.out.step HW.out)
            have HGS := Lib.hid (HE3.out.step HW.out)
            by_cases hlt : i < M0
            · obtain ⟨b1, o1, rfl, hc⟩ := HRS.out.at (k := i) (by rw [HM0.out]; exact hlt)
              have hmem := el_mem (zs := rts) (k := i) (by rw [HM0.out]; exact hlt)
              have HFN := Lib.hid (flat_next (bl := bl) (L := rts) (i := i) (by rw [HM0.out]; exact hlt))
              obtain ⟨a, ha⟩ : ∃ a, el rts i = a := ⟨_, rfl⟩
              rw [ha] at hc hmem HFN
              obtain ⟨bc, ⟨a0, a1⟩, ⟨x0, x1⟩, ⟨y0, y1⟩, htm1⟩ := HNX.out a hmem
              have hpm := pow_mono (show 1 ≤ p by omega) htm1
              have HBC := Lib.hid bc
              have HX1 := Lib.hid x1
              obtain ⟨T, hT⟩ : ∃ T, p ^ (t + 1) = T := ⟨_, rfl⟩
              rw [hT] at x1 y1 hpm
              clear ha bc hT
              have HLL := Lib.hid (show ((rts.take i).flatMap bl).length + (bl a).length ≤ 1000000000 by have := HLN.out (i + 1); rw [← HFN.out, List.length_append] at this; omega)
              have HI2 := Lib.hid (show ∀ (v : Value) (w : World), Reads w v (subL mm a p g) → Calls Try.prog 36 #[.int .i64 p, v, .int .i64 (IntKind.i64.wrap ((k : Int) - (V : Int))), .agg #[.int .i64 (r + a * P), .int .i64 ((t : Int) + 1)]] w (RetBalls (bl a) w) from fun v w hR => by
                have hh := IH.out (subL mm a p g) (k - V) (r + a * P) (t + 1) v w hR (by rw [HMP.out]; exact subL_in hm1 a p g) (by rw [subL_len, HGL.out]; exact hl) (by omega) (by omega) htm1 hm9 HBC.out x0 HX1.out
                rw [HBL.out, show ((k - V : Nat) : Int) = IntKind.i64.wrap ((k : Int) - (V : Int)) by rw [IntWalk.i64_in _ (by omega)]; omega, show ((t + 1 : Nat) : Int) = (t : Int) + 1 by omega] at hh
                exact hh)
              go_wp2
              go_region_held3 (fun w' => w'.cell? ⟨w.heap.size, 0, none⟩ = some (.int .i64 r) ∧ w'.cell? ⟨w.heap.size, 1, none⟩ = some (.int .i64 (t : Int))) (go_keep) (first | (go_at_call 29; ((with_reducible refine (calls_int (power_any p (t : Int) _ (by omega) (by rw [HP.out]; omega) (by rw [HP.out]; omega)) HP.out).mono ?_); rintro e w' ⟨rfl, rfl⟩)))
              all_goals
                go_wp2
                have hw0 : IntKind.i64.wrap (a * P) = a * P := IntWalk.i64_in _ (by omega)
                have hw1 : IntKind.i64.wrap (r + IntKind.i64.wrap (a * P)) = r + a * P := by rw [hw0]; exact IntWalk.i64_in _ (by omega)
                have hw2 : IntKind.i64.wrap ((t : Int) + 1) = (t : Int) + 1 := IntWalk.i64_in _ (by omega)
                simp only [hw1, hw2]
                have d1 : (wr.alloc (.cells #[.int .i64 (r + a * P), .int .i64 ((t : Int) + 1)] 46)).drew.cell? ⟨wr.heap.size, 0, none⟩ = some (.int .i64 (r + a * P)) := by simp
                have d2 : (wr.alloc (.cells #[.int .i64 (r + a * P), .int .i64 ((t : Int) + 1)] 46)).drew.cell? ⟨wr.heap.size, 1, none⟩ = some (.int .i64 ((t : Int) + 1)) := by simp
                have HB4 := Lib.hid (show Below wr.heap.size wr (wr.alloc (.cells #[.int .i64 (r + a * P), .int .i64 ((t : Int) + 1)] 46)).drew from ((Below.refl _ _).alloc (Nat.le_refl _) _).drew)
                have hs4 : wr.heap.size < (wr.alloc (.cells #[.int .i64 (r + a * P), .int .i64 ((t : Int) + 1)] 46)).drew.heap.size := by simp
                clear hw0 hw1 hw2
                generalize (wr.alloc (.cells #[.int .i64 (r + a * P), .int .i64 ((t : Int) + 1)] 46)).drew = w4 at *
                have HG5 := Lib.hid (HGS.out.step HB4.out.drew)
                have HS4 := Lib.hid (show w4.drew.cell? ⟨wr.heap.size, 0, none⟩ = some (.int .i64 (r + a * P)) ∧ w4.drew.cell? ⟨wr.heap.size, 1, none⟩ = some (.int .i64 ((t : Int) + 1)) from ⟨by simpa using d1, by simpa using d2⟩)
                have HLW := Lib.hid (show wr.heap.size < w4.drew.heap.size by simpa using hs4)
                have HNE := Lib.hid (show some wr.heap.size ≠ u15.ownBlock from fun e => by have := (HO.out.lt _ e.symm).2; omega)
                go_region_held3 (fun w' => w'.cell? ⟨wr.heap.size, 0, none⟩ = some (.int .i64 (r + a * P)) ∧ w'.cell? ⟨wr.heap.size, 1, none⟩ = some (.int .i64 ((t : Int) + 1))) (first | go_keep | exact HS5.out | exact HS6.out | exact HS7.out)
                  (first
                    | (go_at_call 43; (with_reducible refine (substituted_any HG5.out HG9.out ⟨hm1, by omega⟩ ⟨a0, by omega⟩ ⟨by omega, hp⟩ (by rw [HGL.out]; omega)).mono ?_); rintro e5 w5 ⟨v5, rfl, o5, b5⟩; have HS5 := Lib.hid (show w5.cell? ⟨wr.heap.size, 0, none⟩ = some (.int .i64 (r + a * P)) ∧ w5.cell? ⟨wr.heap.size, 1, none⟩ = some (.int .i64 ((t : Int) + 1)) from ⟨(b5.cell (p := ⟨wr.heap.size, 0, none⟩) HLW.out).trans HS4.out.1, (b5.cell (p := ⟨wr.heap.size, 1, none⟩) HLW.out).trans HS4.out.2⟩); have HM5 := Lib.hid o5; have HB5 := Lib.hid (show Below wr.heap.size wr w5 from HB4.out.drew.trans (b5.mono (Nat.le_of_lt HLW.out))); have HL5 := Lib.hid (show wr.heap.size < w5.heap.size from Nat.lt_of_lt_of_le HLW.out b5.size); clear o5 b5)
                    | (go_at_call 36; (with_reducible refine (HI2.out _ _ HM5.out.reads).mono ?_); rintro e6 w6 ⟨v6, rfl, o6, b6⟩; have HS6 := Lib.hid (show w6.cell? ⟨wr.heap.size, 0, none⟩ = some (.int .i64 (r + a * P)) ∧ w6.cell? ⟨wr.heap.size, 1, none⟩ = some (.int .i64 ((t : Int) + 1)) from ⟨(b6.cell (p := ⟨wr.heap.size, 0, none⟩) HL5.out).trans HS5.out.1, (b6.cell (p := ⟨wr.heap.size, 1, none⟩) HL5.out).trans HS5.out.2⟩); have HM6 := Lib.hid o6; have HB6 := Lib.hid (show Below wr.heap.size wr w6 from HB5.out.trans (b6.mono (Nat.le_of_lt HL5.out))); have HLT6 := Lib.hid (show wr.heap.size < w6.heap.size from Nat.lt_of_lt_of_le HL5.out b6.size); have HLO6 := Lib.hid (show w3.heap.size ≤ w6.heap.size from Nat.le_of_lt (Nat.lt_of_le_of_lt hsw HLT6.out)); have HO6 := Lib.hid (HO.out.step HB6.out); clear o6 b6)
                    | (refine step_append_balls (L := (rts.take i).flatMap bl) (M := bl a) rfl (.tmp 76) (.tmp 87) (by rfl) (by simp [Act.eval, Act.put]) HO6.out (by simp [Act.eval, Act.put]) HM6.out HLL.out HLO6.out ?_; intro v7 w7 o7 g7 b7; have HS7 := Lib.hid (show w7.cell? ⟨wr.heap.size, 0, none⟩ = some (.int .i64 (r + a * P)) ∧ w7.cell? ⟨wr.heap.size, 1, none⟩ = some (.int .i64 ((t : Int) + 1)) from ⟨(g7.cell_far _ HLT6.out HNE.out).trans HS6.out.1, (g7.cell_far _ HLT6.out HNE.out).trans HS6.out.2⟩)))
                rw [HFN.out] at o7
                have HO7 := Lib.hid o7
                have HB7 := Lib.hid ((HW.out.trans (HB6.out.mono hsw)).trans b7)
                clear o7 g7 b7
                go_wp2
                go_roundw
                case rel => exact ⟨i + 1, by go_num, by omega, HO7.out, HB7.out⟩
                case measure => simp [intOf]; omega
            · have HE := Lib.hid (show (rts.take i).flatMap bl = rts.flatMap bl by rw [List.take_of_length_le (by rw [HM0.out]; omega)])
              rw [HE.out] at HO
              go_wp2
              go_ret
              exact ⟨_, rfl, HO.out.mono HB3.out.size, HB3.out.trans (HW.out.mono HB3.out.size)⟩
theorem balls_any {p : Int} (hpr : primeB p = true) (hp : p ≤ 97) {m : Nat} (hm : p ^ m ≤ 1000000000) : ∀ n, BallsAt p m n
  | 0 => fun F k r t v w _ _ _ _ _ _ _ hc _ _ => by have := hc.2.2; omega
  | n + 1 => balls_step hpr hp hm n (balls_any hpr hp hm n)

end Go.Proofs.Ytdkppikbneijaaa
