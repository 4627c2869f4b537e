/- Contracts: quotients and remainders by a prime. -/
import Derived.Test.YtggojomooodlgaaOg
import Derived.Test.YtggojomooodlgaaOi
namespace Go.Proofs.Ytggojomooodlgaa
open Go.RowKit
set_option linter.unusedVariables false
set_option linter.unusedSimpArgs false

/-- Two new slices come back, the second made behind the first. -/
def RetQR (Q R : List Int) (w : World) (e : Ending) (w' : World) : Prop := ∃ v1 v2 w1, e = .returned (.tuple #[v1, v2]) ∧ Own w1 w.heap.size v1 Q ∧ Below w.heap.size w w1 ∧ Own w' w1.heap.size v2 R ∧ Below w1.heap.size w1 w'
theorem divS_step {p v : Int} {f g : List Int} {N i j m : Nat} (h : i + j + 1 = N) (hm : g.length = m + 1) :
    (divS p v f g N (j + 1)).1 = (divS p v f g N j).1.set i (el (divS p v f g N j).2 (i + m) * v % p) ∧
    (divS p v f g N (j + 1)).2 = subR p (el (divS p v f g N j).2 (i + m) * v % p) g i (divS p v f g N j).2 (m + 1) := by
  have e1 : N - 1 - j = i := by omega
  have e2 : i + (m + 1) - 1 = i + m := by omega
  simp only [divS, e1, hm, e2, and_self]
theorem inverse_one (p a : Int) (w : World) (hr : ringB p 1 = true) (ha : 0 ≤ a ∧ a ≤ 1000000000000) :
    Calls Try.prog 67 #[.agg #[.int .i64 p, .int .i64 1], .int .i64 a] w fun e w' => e = .returned (.int .i64 (invV p a)) ∧ Below w.heap.size w w' := by
  have := inverse_any p 1 a w hr ha
  rw [show (1 : Int).toNat = 1 from rfl, Int.pow_succ, Int.pow_zero, Int.one_mul] at this
  exact this
theorem ring_p1 {p : Int} (hs : smallB p = true) : ringB p 1 = true := by
  have hp := small_bd hs
  have h : ∀ P : Fin 98, smallB (P.val : Int) = true → ringB P.val 1 = true := by decide +kernel
  have e : ((p.toNat : Nat) : Int) = p := by omega
  have h1 := h ⟨p.toNat, by omega⟩
  simp only [e] at h1
  exact h1 hs
theorem inverseBy_any (p a : Int) (w : World) (hs : smallB p = true) (ha : 0 ≤ a ∧ a < p) :
    Calls Try.prog 61 #[.int .i64 p, .int .i64 a] w fun e w' => e = .returned (.int .i64 (invV p a)) ∧ Below w.heap.size w w' := by
  have hp := small_bd hs
  have HR := Lib.hid (ring_p1 hs)
  have HM := Lib.hid (show a % p = a from Int.emod_eq_of_lt ha.1 ha.2)
  clear hs
  go_enter Try.func61, Try.ntmps61
  go_wp2_with (first | (go_at_call 35; ((with_reducible refine (calls_int (mod_any _ _ _ (by omega) (by omega)) HM.out).mono ?_); rintro e w' ⟨rfl, rfl⟩)) | (go_at_call 67; with_reducible refine (inverse_one _ _ _ HR.out ⟨by omega, by omega⟩).mono ?_))
  rintro _ w1 ⟨rfl, hb⟩
  go_wp2
  go_ret
  exact ⟨rfl, hb⟩
theorem inv_in {p a : Int} (hp : 1 ≤ p) : 0 ≤ invV p a ∧ invV p a < p := emod_in _ hp


set_option maxHeartbeats 4000000 in
theorem divide_short {p : Int} {v u : Value} {f g : List Int} {w : World} (h : Reads w v f) (h' : Reads w u g) (hf : In p f) (hg : In p g) (hs : smallB p = true) (l1 : f.length ≤ 1000) (l2 : g.length ≤ 1000) (l0 : 0 < g.length) (lw : f.length < g.length) :
    Calls Try.prog 53 #[.int .i64 p, v, u] w (RetQR (quoL p (invV p (el g (g.length - 1))) f g) (remL p (invV p (el g (g.length - 1))) f g) w) := by
  have hp := small_bd hs
  have HSM := Lib.hid hs
  clear hs
  obtain ⟨m, hm⟩ : ∃ m, g.length = m + 1 := ⟨g.length - 1, by omega⟩
  obtain ⟨n, hn⟩ : ∃ n, f.length = n := ⟨_, rfl⟩
  have hlt : n ≤ m := by omega
  obtain ⟨N, hN0⟩ : ∃ N, N = 0 := ⟨0, rfl⟩
  have HM := Lib.hid hm
  have HN := Lib.hid hn
  have hN : divN f g = N := by rw [divN, hn, hm]; omega
  subst hN0
  rw [quoL, remL, hN, show g.length - 1 = m by omega]
  obtain ⟨V, hV⟩ : ∃ V, invV p (el g m) = V := ⟨_, rfl⟩
  have HV := Lib.hid hV
  have hVb : 0 ≤ V ∧ V < p := by rw [← hV]; exact inv_in (by omega)
  rw [hV]
  obtain ⟨a1, c1, rfl, k1, k2⟩ := reads_nil_eq h
  obtain ⟨a2, c2, rfl, k3, k4⟩ := reads_nil_eq h'
  rw [hn] at h k1 l1 ⊢
  rw [hm] at h' k3 l2 ⊢
  have HR := Lib.hid h
  have HS := Lib.hid h'
  obtain ⟨b2, o2, rfl, hcl⟩ := h'.at (k := m) (by omega)
  have hbl := h'.lt (by omega)
  have hgm := hg m
  have HF := Lib.hid hf
  have HG := Lib.hid hg
  clear h h' k2 k4 hf hg hm hn hN hV lw
  go_enter Try.func53, Try.ntmps53
  go_wp2_with (go_at_call 49; with_reducible refine (Clone_reads HR.out).mono ?_)
  rintro _ w1 ⟨v1, rfl, o1, hb1⟩
  have HO1 := Lib.hid o1
  have HB1 := Lib.hid hb1
  clear o1 hb1
  rw [← HB1.out.cell (p := ⟨b2, o2 + m, none⟩) hbl] at hcl
  go_wp2_with (at_make; refine make_ints _ rfl _ _ rfl 0 rfl rfl (by omega) (by omega) (by omega) ?_)
  intro w2 oq hb2 hs2
  rw [← hb2.cell (p := ⟨b2, o2 + m, none⟩) (Nat.lt_of_lt_of_le hbl HB1.out.size)] at hcl
  have HOR := Lib.hid (HO1.out.step hb2)
  have HOQ := Lib.hid (oq.mono HB1.out.size)
  have HB2 := Lib.hid (HB1.out.trans (hb2.mono HB1.out.size))
  have HAP := Lib.hid (fun k (hk : v1.ownBlock = some k) => (HO1.out.lt k hk).2)
  have hs1 := HB1.out.size
  clear oq hb2
  go_wp2_with (go_at_call 61; with_reducible refine (calls_int (inverseBy_any p (el g m) _ HSM.out hgm) HV.out).mono ?_)
  rintro _ w3 ⟨rfl, hb3⟩
  have HOR3 := Lib.hid (HOR.out.step hb3)
  have HOQ3 := Lib.hid (HOQ.out.step hb3)
  have HB3 := Lib.hid (HB2.out.trans (hb3.mono HB2.out.size))
  have hs3 := hb3.size
  clear HOR HOQ HB2 hb3 hcl
  go_wp2
  go_loop [11] (fun c => c = .int .i64 (-1)) (fun _ => 0)
  case atStart => rfl
  case round =>
    obtain rfl := hrel
    go_wp2_with (go_at_call 36; with_reducible refine (trim_any HOQ3.out.reads).mono ?_)
    rintro _ w4 ⟨v4, rfl, o4, hb4⟩
    have HO4 := Lib.hid o4
    have HB4 := Lib.hid hb4
    clear o4 hb4
    go_wp2_with (go_at_call 36; with_reducible refine (trim_any (HOR3.out.step HB4.out).reads).mono ?_)
    rintro _ w5 ⟨v5, rfl, o5, hb5⟩
    go_wp2
    go_ret2
    exact ⟨v4, v5, w4, rfl, HO4.out.mono HB3.out.size, HB3.out.trans (HB4.out.mono HB3.out.size), o5, hb5⟩

set_option maxHeartbeats 4000000 in
theorem divide_long {p : Int} {v u : Value} {f g : List Int} {w : World} (h : Reads w v f) (h' : Reads w u g) (hf : In p f) (hg : In p g) (hs : smallB p = true) (l1 : f.length ≤ 1000) (l2 : g.length ≤ 1000) (l0 : 0 < g.length) (lw : g.length ≤ f.length) :
    Calls Try.prog 53 #[.int .i64 p, v, u] w (RetQR (quoL p (invV p (el g (g.length - 1))) f g) (remL p (invV p (el g (g.length - 1))) f g) w) := by
  have hp := small_bd hs
  have HSM := Lib.hid hs
  clear hs
  obtain ⟨m, hm⟩ : ∃ m, g.length = m + 1 := ⟨g.length - 1, by omega⟩
  obtain ⟨N, hn⟩ : ∃ N, f.length = m + N := ⟨f.length - m, by omega⟩
  have hN1 : 0 < N := by omega
  have HM := Lib.hid hm
  have HN := Lib.hid hn
  have hN : divN f g = N := by rw [divN, hn, hm]; omega
  rw [quoL, remL, hN, show g.length - 1 = m by omega]
  obtain ⟨V, hV⟩ : ∃ V, invV p (el g m) = V := ⟨_, rfl⟩
  have HV := Lib.hid hV
  have hVb : 0 ≤ V ∧ V < p := by rw [← hV]; exact inv_in (by omega)
  rw [hV]
  obtain ⟨a1, c1, rfl, k1, k2⟩ := reads_nil_eq h
  obtain ⟨a2, c2, rfl, k3, k4⟩ := reads_nil_eq h'
  rw [hn] at h k1 l1 ⊢
  rw [hm] at h' k3 l2 ⊢
  have HR := Lib.hid h
  have HS := Lib.hid h'
  obtain ⟨b2, o2, rfl, hcl⟩ := h'.at (k := m) (by omega)
  have hbl := h'.lt (by omega)
  have hgm := hg m
  have HF := Lib.hid hf
  have HG := Lib.hid hg
  clear h h' k2 k4 hf hg hm hn hN hV lw
  go_enter Try.func53, Try.ntmps53
  go_wp2_with (go_at_call 49; with_reducible refine (Clone_reads HR.out).mono ?_)
  rintro _ w1 ⟨v1, rfl, o1, hb1⟩
  have HO1 := Lib.hid o1
  have HB1 := Lib.hid hb1
  clear o1 hb1
  rw [← HB1.out.cell (p := ⟨b2, o2 + m, none⟩) hbl] at hcl
  go_wp2_with (at_make; refine make_ints _ rfl _ _ rfl N rfl rfl (by omega) (by omega) (by omega) ?_)
  intro w2 oq hb2 hs2
  rw [← hb2.cell (p := ⟨b2, o2 + m, none⟩) (Nat.lt_of_lt_of_le hbl HB1.out.size)] at hcl
  have HOR := Lib.hid (HO1.out.step hb2)
  have HOQ := Lib.hid (oq.mono HB1.out.size)
  have HB2 := Lib.hid (HB1.out.trans (hb2.mono HB1.out.size))
  have HAP := Lib.hid (fun k (hk : v1.ownBlock = some k) => (HO1.out.lt k hk).2)
  have hs1 := HB1.out.size
  clear oq hb2
  go_wp2_with (go_at_call 61; with_reducible refine (calls_int (inverseBy_any p (el g m) _ HSM.out hgm) HV.out).mono ?_)
  rintro _ w3 ⟨rfl, hb3⟩
  have HOR3 := Lib.hid (HOR.out.step hb3)
  have HOQ3 := Lib.hid (HOQ.out.step hb3)
  have HB3 := Lib.hid (HB2.out.trans (hb3.mono HB2.out.size))
  have hs3 := hb3.size
  clear HOR HOQ HB2 hb3 hcl
  obtain ⟨g1, cc, rfl, hg1, hg2, hcc, hcm⟩ := HO1.out.head (by rw [HN.out]; omega)
  rw [HN.out] at HO1 HOR3 HAP hcc
  have hg1w := (HO1.out.lt g1 rfl).2
  rw [HN.out]
  go_wp2
  go_loopw [11] (fun c wr => ∃ (j : Nat) (K : Int), c = .int .i64 K ∧ K + j + 1 = N ∧ j ≤ N ∧ Own wr w.heap.size (.slice (some ⟨g1, 0, none⟩) (m + N) cc) (divS p V f g N j).2 ∧ Own wr w.heap.size (.slice (some ⟨w1.heap.size, 0, none⟩) N N) (divS p V f g N j).1 ∧ Below w.heap.size w wr ∧ w2.heap.size ≤ wr.heap.size) (fun c _ => (intOf c + 1).toNat)
  case atStart => exact ⟨0, (N : Int) - 1, by first | rfl | (congr 1; omega), by omega, by omega, HOR3.out, HOQ3.out, HB3.out, hs3⟩
  case round =>
    clear HO1 HOR3 HOQ3 HB3
    obtain ⟨j, K, rfl, hK, hj, hr, hq, hbel, hsz⟩ := hrel
    have HOR := Lib.hid hr
    have HOQ := Lib.hid hq
    have HB := Lib.hid hbel
    clear hr hq hbel
    by_cases hlt : j < N
    · obtain ⟨i, rfl⟩ : ∃ i : Nat, K = (i : Int) := ⟨N - 1 - j, by omega⟩
      have hij : i + j + 1 = N := by omega
      obtain ⟨e1, e2⟩ := divS_step (p := p) (v := V) (f := f) (g := g) hij HM.out
      obtain ⟨ql, rl⟩ := divS_len p V f g N j
      obtain ⟨qi, ri⟩ := divS_in (v := V) (g := g) (n := N) (show 1 ≤ p by omega) HF.out j
      rw [HN.out] at rl
      have E1 := Lib.hid e1
      have E2 := Lib.hid e2
      have RI := Lib.hid ri
      have RL := Lib.hid rl
      have QL := Lib.hid ql
      clear e1 e2 ri rl ql qi hK
      obtain ⟨x, hx⟩ : ∃ x, el (divS p V f g N j).2 (i + m) = x := ⟨_, rfl⟩
      have hxb := RI.out (i + m)
      have f2 := HOR.out.cellAt (i := i + m) (by rw [RL.out]; omega)
      rw [hx] at hxb f2 E1 E2
      obtain ⟨t1, t2⟩ : 0 ≤ x * V ∧ x * V ≤ 97 * 97 := by
        have := Int.mul_nonneg hxb.1 hVb.1
        have := Int.mul_le_mul (show x ≤ 97 by omega) (show V ≤ 97 by omega) hVb.1 (by omega)
        omega
      have f3 := HOQ.out.frozenAt i
      have f4 := (HOQ.out.lt w1.heap.size rfl).2
      have f5 := HOQ.out.cellAt (i := i) (by rw [QL.out]; omega)
      go_wp2
      obtain ⟨s1, s2⟩ := HOQ.out.stored i (x * V % p)
      rw [← E1.out] at s1
      have cb := emod_in (x * V) (show 1 ≤ p by omega)
      obtain ⟨c, hc⟩ : ∃ c, x * V % p = c := ⟨_, rfl⟩
      rw [hc] at s1 s2 cb E1 E2 ⊢
      have HQ1 := Lib.hid s1
      have HR1 := Lib.hid (HOR.out.kept s2 (.inr (by intro e; simp [Value.ownBlock] at e; omega)))
      have HB1' := Lib.hid (HB.out.setCell (p := ⟨w1.heap.size, i, none⟩) hs1 (.int .i64 c))
      have HCi := Lib.hid (show el (divS p V f g N (j + 1)).1 i = c by rw [E1.out, el_set (by rw [QL.out]; omega), if_pos rfl])
      have hsz1 : w2.heap.size ≤ (wr.setCell ⟨w1.heap.size, i, none⟩ (.int .i64 c)).heap.size := by simp; omega
      clear s1 s2 f2 f3 f4 f5 hxb hx t1 t2 hc HOQ HOR HB
      go_loopw [56] (fun c' wr => ∃ k : Nat, c' = .int .i64 (k : Int) ∧ k ≤ m + 1 ∧ Own wr w.heap.size (.slice (some ⟨g1, 0, none⟩) (m + N) cc) (subR p c g i (divS p V f g N j).2 k) ∧ Own wr w.heap.size (.slice (some ⟨w1.heap.size, 0, none⟩) N N) (divS p V f g N (j + 1)).1 ∧ Below w.heap.size w wr ∧ w2.heap.size ≤ wr.heap.size) (fun c' _ => m + 1 - (intOf c').toNat)
      case atStart => exact ⟨0, rfl, by omega, HR1.out, HQ1.out, HB1'.out, hsz1⟩
      case round =>
        clear HR1 HQ1 HB1' hsz1
        obtain ⟨k, rfl, hk, hr, hq, hbel, hsz'⟩ := hrel
        have HOR := Lib.hid hr
        have HOQ := Lib.hid hq
        have HB := Lib.hid hbel
        clear hr hq hbel
        by_cases hlt2 : k < m + 1
        · have HS1 := Lib.hid (HS.out.step HB.out)
          obtain ⟨b2', o2', e3, hc2⟩ := HS1.out.at (k := k) (by rw [HM.out]; exact hlt2)
          injection e3 with e3
          injection e3 with e3 e4 _
          subst e3 e4
          have y2 := HS1.out.lt (by rw [HM.out]; omega)
          have y3 := (HOR.out.lt g1 rfl).2
          have y4 := (HOQ.out.lt w1.heap.size rfl).2
          have f2 := HOR.out.cellAt (i := i + k) (by rw [subR_len, RL.out]; omega)
          have f3 := HOR.out.frozenAt (i + k)
          have f4 := HOQ.out.cellAt (i := i) (by rw [(divS_len p V f g N (j + 1)).1]; omega)
          rw [HCi.out] at f4
          have gk := HG.out k
          have rk := subR_in (c := c) (g := g) (i := i) (show 1 ≤ p by omega) RI.out k (i + k)
          obtain ⟨t1, t2⟩ : 0 ≤ c * el g k ∧ c * el g k ≤ 97 * 97 := by
            have := Int.mul_nonneg cb.1 gk.1
            have := Int.mul_le_mul (show c ≤ 97 by omega) (show el g k ≤ 97 by omega) gk.1 (by omega)
            omega
          go_wp2_with (first | (go_at_call 35; ((with_reducible refine (mod_any _ _ _ (by omega) (by omega)).mono ?_); rintro e w' ⟨rfl, rfl⟩)) | (refine wp_region_wext_tail 20 (by kernel_rfl) (by kernel_rfl) ?_; simp only [List.take_succ_cons, List.take_zero, List.drop_succ_cons, List.drop_zero]; (repeat (go_big_quiet_step (first | (go_at_call 35; with_reducible refine calls_wext_same (mod_any _ _ _ (by omega) (by omega)))))); refine wpQuiet_nil ?_; intro w1_hbq hbq; replace hbq := below_of_wext hbq; obtain ⟨chbq, fhbq, shbq⟩ := bfacts2 hbq; (try simp at shbq)) | (refine wp_region_wext (by kernel_rfl) (by kernel_rfl) ?_; (repeat (go_big_quiet_step (first | (go_at_call 35; with_reducible refine calls_wext_same (mod_any _ _ _ (by omega) (by omega)))))); refine wpQuiet_nil ?_; intro w1_hbq hbq; replace hbq := below_of_wext hbq; obtain ⟨chbq, fhbq, shbq⟩ := bfacts2 hbq; (try simp at shbq)))
          obtain ⟨g1', g2'⟩ := (HOR.out.step hbq).stored (i + k) ((el (subR p c g i (divS p V f g N j).2 k) (i + k) - c * el g k) % p)
          go_roundw
          case rel => exact ⟨k + 1, by go_num, by omega, g1', (HOQ.out.step hbq).kept g2' (.inr (by intro e; simp [Value.ownBlock] at e; omega)), (HB.out.trans (hbq.mono HB.out.size)).setCell (Nat.le_trans hg1 (Nat.le_refl _)) _, by have := hbq.size; simp; omega⟩
          case measure => simp [intOf]; omega
        · obtain rfl : k = m + 1 := by omega
          rw [← E2.out] at HOR
          go_wp2
          go_roundw
          case rel => exact ⟨j + 1, (i : Int) - 1, rfl, by omega, by omega, HOR.out, HOQ.out, HB.out, hsz'⟩
          case measure => first | (simp [intOf]; done) | (simp [intOf]; omega)
    · obtain rfl : j = N := by omega
      have hK0 : K = -1 := by omega
      subst hK0
      go_wp2_with (go_at_call 36; with_reducible refine (trim_any HOQ.out.reads).mono ?_)
      rintro _ w4 ⟨v4, rfl, o4, hb4⟩
      have HO4 := Lib.hid o4
      have HB4 := Lib.hid hb4
      clear o4 hb4
      go_wp2_with (go_at_call 36; with_reducible refine (trim_any (HOR.out.step HB4.out).reads).mono ?_)
      rintro _ w5 ⟨v5, rfl, o5, hb5⟩
      go_wp2
      go_ret2
      exact ⟨v4, v5, w4, rfl, HO4.out.mono HB.out.size, HB.out.trans (HB4.out.mono HB.out.size), o5, hb5⟩
theorem divide_any {p : Int} {v u : Value} {f g : List Int} {w : World} (h : Reads w v f) (h' : Reads w u g) (hf : In p f) (hg : In p g) (hs : smallB p = true) (l1 : f.length ≤ 1000) (l2 : g.length ≤ 1000) (l0 : 0 < g.length) :
    Calls Try.prog 53 #[.int .i64 p, v, u] w (RetQR (quoL p (invV p (el g (g.length - 1))) f g) (remL p (invV p (el g (g.length - 1))) f g) w) := by
  by_cases lw : f.length < g.length
  · exact divide_short h h' hf hg hs l1 l2 l0 lw
  · exact divide_long h h' hf hg hs l1 l2 l0 (by omega)

set_option maxHeartbeats 4000000 in
theorem l08Divide_short {p : Int} {v u : Value} {f g : List Int} {w : World} (h : Reads w v f) (h' : Reads w u g) (hf : In p f) (hg : In p g) (hs : smallB p = true) (l1 : f.length ≤ 1000) (l2 : g.length ≤ 1000) (l0 : 0 < g.length) (lw : f.length < g.length) :
    Calls Try.prog 57 #[.int .i64 p, v, u] w (RetQR (quoL p (invV p (el g (g.length - 1))) f g) (remL p (invV p (el g (g.length - 1))) f g) w) := by
  have hp := small_bd hs
  have HSM := Lib.hid hs
  clear hs
  obtain ⟨m, hm⟩ : ∃ m, g.length = m + 1 := ⟨g.length - 1, by omega⟩
  obtain ⟨n, hn⟩ : ∃ n, f.length = n := ⟨_, rfl⟩
  have hlt : n ≤ m := by omega
  obtain ⟨N, hN0⟩ : ∃ N, N = 0 := ⟨0, rfl⟩
  have HM := Lib.hid hm
  have HN := Lib.hid hn
  have hN : divN f g = N := by rw [divN, hn, hm]; omega
  subst hN0
  rw [quoL, remL, hN, show g.length - 1 = m by omega]
  obtain ⟨V, hV⟩ : ∃ V, invV p (el g m) = V := ⟨_, rfl⟩
  have HV := Lib.hid hV
  have hVb : 0 ≤ V ∧ V < p := by rw [← hV]; exact inv_in (by omega)
  rw [hV]
  obtain ⟨a1, c1, rfl, k1, k2⟩ := reads_nil_eq h
  obtain ⟨a2, c2, rfl, k3, k4⟩ := reads_nil_eq h'
  rw [hn] at h k1 l1 ⊢
  rw [hm] at h' k3 l2 ⊢
  have HR := Lib.hid h
  have HS := Lib.hid h'
  obtain ⟨b2, o2, rfl, hcl⟩ := h'.at (k := m) (by omega)
  have hbl := h'.lt (by omega)
  have hgm := hg m
  have HF := Lib.hid hf
  have HG := Lib.hid hg
  clear h h' k2 k4 hf hg hm hn hN hV lw
  go_enter Try.func57, Try.ntmps57
  go_wp2_with (go_at_call 63; with_reducible refine (l01Own_reads HR.out).mono ?_)
  rintro _ w1 ⟨v1, rfl, o1, hb1⟩
  have HO1 := Lib.hid o1
  have HB1 := Lib.hid hb1
  clear o1 hb1
  rw [← HB1.out.cell (p := ⟨b2, o2 + m, none⟩) hbl] at hcl
  go_wp2_with (at_make; refine make_ints _ rfl _ _ rfl 0 rfl rfl (by omega) (by omega) (by omega) ?_)
  intro w2 oq hb2 hs2
  rw [← hb2.cell (p := ⟨b2, o2 + m, none⟩) (Nat.lt_of_lt_of_le hbl HB1.out.size)] at hcl
  have HOR := Lib.hid (HO1.out.step hb2)
  have HOQ := Lib.hid (oq.mono HB1.out.size)
  have HB2 := Lib.hid (HB1.out.trans (hb2.mono HB1.out.size))
  have HAP := Lib.hid (fun k (hk : v1.ownBlock = some k) => (HO1.out.lt k hk).2)
  have hs1 := HB1.out.size
  clear oq hb2
  go_wp2_with (go_at_call 64; with_reducible refine (calls_int (l02Inverse_any (el g m) p _ ⟨by omega, by omega⟩ ⟨by omega, by omega⟩) HV.out).mono ?_)
  rintro _ w3 ⟨rfl, e3⟩
  have hb3 : Below w2.heap.size w2 w3 := by rw [← e3]; exact Below.refl _ _
  have HOR3 := Lib.hid (HOR.out.step hb3)
  have HOQ3 := Lib.hid (HOQ.out.step hb3)
  have HB3 := Lib.hid (HB2.out.trans (hb3.mono HB2.out.size))
  have hs3 := hb3.size
  clear HOR HOQ HB2 hb3 hcl
  go_wp2
  go_loop [11] (fun c => c = .int .i64 (-1)) (fun _ => 0)
  case atStart => rfl
  case round =>
    obtain rfl := hrel
    go_wp2_with (go_at_call 65; with_reducible refine (l06Trim_any HOQ3.out.reads).mono ?_)
    rintro _ w4 ⟨v4, rfl, o4, hb4⟩
    have HO4 := Lib.hid o4
    have HB4 := Lib.hid hb4
    clear o4 hb4
    go_wp2_with (go_at_call 65; with_reducible refine (l06Trim_any (HOR3.out.step HB4.out).reads).mono ?_)
    rintro _ w5 ⟨v5, rfl, o5, hb5⟩
    go_wp2
    go_ret2
    exact ⟨v4, v5, w4, rfl, HO4.out.mono HB3.out.size, HB3.out.trans (HB4.out.mono HB3.out.size), o5, hb5⟩

set_option maxHeartbeats 4000000 in
theorem l08Divide_long {p : Int} {v u : Value} {f g : List Int} {w : World} (h : Reads w v f) (h' : Reads w u g) (hf : In p f) (hg : In p g) (hs : smallB p = true) (l1 : f.length ≤ 1000) (l2 : g.length ≤ 1000) (l0 : 0 < g.length) (lw : g.length ≤ f.length) :
    Calls Try.prog 57 #[.int .i64 p, v, u] w (RetQR (quoL p (invV p (el g (g.length - 1))) f g) (remL p (invV p (el g (g.length - 1))) f g) w) := by
  have hp := small_bd hs
  have HSM := Lib.hid hs
  clear hs
  obtain ⟨m, hm⟩ : ∃ m, g.length = m + 1 := ⟨g.length - 1, by omega⟩
  obtain ⟨N, hn⟩ : ∃ N, f.length = m + N := ⟨f.length - m, by omega⟩
  have hN1 : 0 < N := by omega
  have HM := Lib.hid hm
  have HN := Lib.hid hn
  have hN : divN f g = N := by rw [divN, hn, hm]; omega
  rw [quoL, remL, hN, show g.length - 1 = m by omega]
  obtain ⟨V, hV⟩ : ∃ V, invV p (el g m) = V := ⟨_, rfl⟩
  have HV := Lib.hid hV
  have hVb : 0 ≤ V ∧ V < p := by rw [← hV]; exact inv_in (by omega)
  rw [hV]
  obtain ⟨a1, c1, rfl, k1, k2⟩ := reads_nil_eq h
  obtain ⟨a2, c2, rfl, k3, k4⟩ := reads_nil_eq h'
  rw [hn] at h k1 l1 ⊢
  rw [hm] at h' k3 l2 ⊢
  have HR := Lib.hid h
  have HS := Lib.hid h'
  obtain ⟨b2, o2, rfl, hcl⟩ := h'.at (k := m) (by omega)
  have hbl := h'.lt (by omega)
  have hgm := hg m
  have HF := Lib.hid hf
  have HG := Lib.hid hg
  clear h h' k2 k4 hf hg hm hn hN hV lw
  go_enter Try.func57, Try.ntmps57
  go_wp2_with (go_at_call 63; with_reducible refine (l01Own_reads HR.out).mono ?_)
  rintro _ w1 ⟨v1, rfl, o1, hb1⟩
  have HO1 := Lib.hid o1
  have HB1 := Lib.hid hb1
  clear o1 hb1
  rw [← HB1.out.cell (p := ⟨b2, o2 + m, none⟩) hbl] at hcl
  go_wp2_with (at_make; refine make_ints _ rfl _ _ rfl N rfl rfl (by omega) (by omega) (by omega) ?_)
  intro w2 oq hb2 hs2
  rw [← hb2.cell (p := ⟨b2, o2 + m, none⟩) (Nat.lt_of_lt_of_le hbl HB1.out.size)] at hcl
  have HOR := Lib.hid (HO1.out.step hb2)
  have HOQ := Lib.hid (oq.mono HB1.out.size)
  have HB2 := Lib.hid (HB1.out.trans (hb2.mono HB1.out.size))
  have HAP := Lib.hid (fun k (hk : v1.ownBlock = some k) => (HO1.out.lt k hk).2)
  have hs1 := HB1.out.size
  clear oq hb2
  go_wp2_with (go_at_call 64; with_reducible refine (calls_int (l02Inverse_any (el g m) p _ ⟨by omega, by omega⟩ ⟨by omega, by omega⟩) HV.out).mono ?_)
  rintro _ w3 ⟨rfl, e3⟩
  have hb3 : Below w2.heap.size w2 w3 := by rw [← e3]; exact Below.refl _ _
  have HOR3 := Lib.hid (HOR.out.step hb3)
  have HOQ3 := Lib.hid (HOQ.out.step hb3)
  have HB3 := Lib.hid (HB2.out.trans (hb3.mono HB2.out.size))
  have hs3 := hb3.size
  clear HOR HOQ HB2 hb3 hcl
  obtain ⟨g1, cc, rfl, hg1, hg2, hcc, hcm⟩ := HO1.out.head (by rw [HN.out]; omega)
  rw [HN.out] at HO1 HOR3 HAP hcc
  have hg1w := (HO1.out.lt g1 rfl).2
  rw [HN.out]
  go_wp2
  go_loopw [11] (fun c wr => ∃ (j : Nat) (K : Int), c = .int .i64 K ∧ K + j + 1 = N ∧ j ≤ N ∧ Own wr w.heap.size (.slice (some ⟨g1, 0, none⟩) (m + N) cc) (divS p V f g N j).2 ∧ Own wr w.heap.size (.slice (some ⟨w1.heap.size, 0, none⟩) N N) (divS p V f g N j).1 ∧ Below w.heap.size w wr ∧ w2.heap.size ≤ wr.heap.size) (fun c _ => (intOf c + 1).toNat)
  case atStart => exact ⟨0, (N : Int) - 1, by first | rfl | (congr 1; omega), by omega, by omega, HOR3.out, HOQ3.out, HB3.out, hs3⟩
  case round =>
    clear HO1 HOR3 HOQ3 HB3
    obtain ⟨j, K, rfl, hK, hj, hr, hq, hbel, hsz⟩ := hrel
    have HOR := Lib.hid hr
    have HOQ := Lib.hid hq
    have HB := Lib.hid hbel
    clear hr hq hbel
    by_cases hlt : j < N
    · obtain ⟨i, rfl⟩ : ∃ i : Nat, K = (i : Int) := ⟨N - 1 - j, by omega⟩
      have hij : i + j + 1 = N := by omega
      obtain ⟨e1, e2⟩ := divS_step (p := p) (v := V) (f := f) (g := g) hij HM.out
      obtain ⟨ql, rl⟩ := divS_len p V f g N j
      obtain ⟨qi, ri⟩ := divS_in (v := V) (g := g) (n := N) (show 1 ≤ p by omega) HF.out j
      rw [HN.out] at rl
      have E1 := Lib.hid e1
      have E2 := Lib.hid e2
      have RI := Lib.hid ri
      have RL := Lib.hid rl
      have QL := Lib.hid ql
      clear e1 e2 ri rl ql qi hK
      obtain ⟨x, hx⟩ : ∃ x, el (divS p V f g N j).2 (i + m) = x := ⟨_, rfl⟩
      have hxb := RI.out (i + m)
      have f2 := HOR.out.cellAt (i := i + m) (by rw [RL.out]; omega)
      rw [hx] at hxb f2 E1 E2
      obtain ⟨t1, t2⟩ : 0 ≤ x * V ∧ x * V ≤ 97 * 97 := by
        have := Int.mul_nonneg hxb.1 hVb.1
        have := Int.mul_le_mul (show x ≤ 97 by omega) (show V ≤ 97 by omega) hVb.1 (by omega)
        omega
      have f3 := HOQ.out.frozenAt i
      have f4 := (HOQ.out.lt w1.heap.size rfl).2
      have f5 := HOQ.out.cellAt (i := i) (by rw [QL.out]; omega)
      go_wp2
      obtain ⟨s1, s2⟩ := HOQ.out.stored i (x * V % p)
      rw [← E1.out] at s1
      have cb := emod_in (x * V) (show 1 ≤ p by omega)
      obtain ⟨c, hc⟩ : ∃ c, x * V % p = c := ⟨_, rfl⟩
      rw [hc] at s1 s2 cb E1 E2 ⊢
      have HQ1 := Lib.hid s1
      have HR1 := Lib.hid (HOR.out.kept s2 (.inr (by intro e; simp [Value.ownBlock] at e; omega)))
      have HB1' := Lib.hid (HB.out.setCell (p := ⟨w1.heap.size, i, none⟩) hs1 (.int .i64 c))
      have HCi := Lib.hid (show el (divS p V f g N (j + 1)).1 i = c by rw [E1.out, el_set (by rw [QL.out]; omega), if_pos rfl])
      have hsz1 : w2.heap.size ≤ (wr.setCell ⟨w1.heap.size, i, none⟩ (.int .i64 c)).heap.size := by simp; omega
      clear s1 s2 f2 f3 f4 f5 hxb hx t1 t2 hc HOQ HOR HB
      go_loopw [13] (fun c' wr => ∃ k : Nat, c' = .int .i64 (k : Int) ∧ k ≤ m + 1 ∧ Own wr w.heap.size (.slice (some ⟨g1, 0, none⟩) (m + N) cc) (subR p c g i (divS p V f g N j).2 k) ∧ Own wr w.heap.size (.slice (some ⟨w1.heap.size, 0, none⟩) N N) (divS p V f g N (j + 1)).1 ∧ Below w.heap.size w wr ∧ w2.heap.size ≤ wr.heap.size) (fun c' _ => m + 1 - (intOf c').toNat)
      case atStart => exact ⟨0, rfl, by omega, HR1.out, HQ1.out, HB1'.out, hsz1⟩
      case round =>
        clear HR1 HQ1 HB1' hsz1
        obtain ⟨k, rfl, hk, hr, hq, hbel, hsz'⟩ := hrel
        have HOR := Lib.hid hr
        have HOQ := Lib.hid hq
        have HB := Lib.hid hbel
        clear hr hq hbel
        by_cases hlt2 : k < m + 1
        · have HS1 := Lib.hid (HS.out.step HB.out)
          obtain ⟨b2', o2', e3, hc2⟩ := HS1.out.at (k := k) (by rw [HM.out]; exact hlt2)
          injection e3 with e3
          injection e3 with e3 e4 _
          subst e3 e4
          have y2 := HS1.out.lt (by rw [HM.out]; omega)
          have y3 := (HOR.out.lt g1 rfl).2
          have y4 := (HOQ.out.lt w1.heap.size rfl).2
          have f2 := HOR.out.cellAt (i := i + k) (by rw [subR_len, RL.out]; omega)
          have f3 := HOR.out.frozenAt (i + k)
          have f4 := HOQ.out.cellAt (i := i) (by rw [(divS_len p V f g N (j + 1)).1]; omega)
          rw [HCi.out] at f4
          have gk := HG.out k
          have rk := subR_in (c := c) (g := g) (i := i) (show 1 ≤ p by omega) RI.out k (i + k)
          obtain ⟨t1, t2⟩ : 0 ≤ c * el g k ∧ c * el g k ≤ 97 * 97 := by
            have := Int.mul_nonneg cb.1 gk.1
            have := Int.mul_le_mul (show c ≤ 97 by omega) (show el g k ≤ 97 by omega) gk.1 (by omega)
            omega
          go_wp2_with (first | (go_at_call 29; ((with_reducible refine (l01Mod_any _ _ _ (by omega) (by omega)).mono ?_); rintro e w' ⟨rfl, rfl⟩)) | (refine wp_region_wext_tail 20 (by kernel_rfl) (by kernel_rfl) ?_; simp only [List.take_succ_cons, List.take_zero, List.drop_succ_cons, List.drop_zero]; (repeat (go_big_quiet_step (first | (go_at_call 29; with_reducible refine calls_wext_same (l01Mod_any _ _ _ (by omega) (by omega)))))); refine wpQuiet_nil ?_; intro w1_hbq hbq; replace hbq := below_of_wext hbq; obtain ⟨chbq, fhbq, shbq⟩ := bfacts2 hbq; (try simp at shbq)) | (refine wp_region_wext (by kernel_rfl) (by kernel_rfl) ?_; (repeat (go_big_quiet_step (first | (go_at_call 29; with_reducible refine calls_wext_same (l01Mod_any _ _ _ (by omega) (by omega)))))); refine wpQuiet_nil ?_; intro w1_hbq hbq; replace hbq := below_of_wext hbq; obtain ⟨chbq, fhbq, shbq⟩ := bfacts2 hbq; (try simp at shbq)))
          obtain ⟨g1', g2'⟩ := (HOR.out.step hbq).stored (i + k) ((el (subR p c g i (divS p V f g N j).2 k) (i + k) - c * el g k) % p)
          go_roundw
          case rel => exact ⟨k + 1, by go_num, by omega, g1', (HOQ.out.step hbq).kept g2' (.inr (by intro e; simp [Value.ownBlock] at e; omega)), (HB.out.trans (hbq.mono HB.out.size)).setCell (Nat.le_trans hg1 (Nat.le_refl _)) _, by have := hbq.size; simp; omega⟩
          case measure => simp [intOf]; omega
        · obtain rfl : k = m + 1 := by omega
          rw [← E2.out] at HOR
          go_wp2
          go_roundw
          case rel => exact ⟨j + 1, (i : Int) - 1, rfl, by omega, by omega, HOR.out, HOQ.out, HB.out, hsz'⟩
          case measure => first | (simp [intOf]; done) | (simp [intOf]; omega)
    · obtain rfl : j = N := by omega
      have hK0 : K = -1 := by omega
      subst hK0
      go_wp2_with (go_at_call 65; with_reducible refine (l06Trim_any HOQ.out.reads).mono ?_)
      rintro _ w4 ⟨v4, rfl, o4, hb4⟩
      have HO4 := Lib.hid o4
      have HB4 := Lib.hid hb4
      clear o4 hb4
      go_wp2_with (go_at_call 65; with_reducible refine (l06Trim_any (HOR.out.step HB4.out).reads).mono ?_)
      rintro _ w5 ⟨v5, rfl, o5, hb5⟩
      go_wp2
      go_ret2
      exact ⟨v4, v5, w4, rfl, HO4.out.mono HB.out.size, HB.out.trans (HB4.out.mono HB.out.size), o5, hb5⟩
theorem l08Divide_any {p : Int} {v u : Value} {f g : List Int} {w : World} (h : Reads w v f) (h' : Reads w u g) (hf : In p f) (hg : In p g) (hs : smallB p = true) (l1 : f.length ≤ 1000) (l2 : g.length ≤ 1000) (l0 : 0 < g.length) :
    Calls Try.prog 57 #[.int .i64 p, v, u] w (RetQR (quoL p (invV p (el g (g.length - 1))) f g) (remL p (invV p (el g (g.length - 1))) f g) w) := by
  by_cases lw : f.length < g.length
  · exact l08Divide_short h h' hf hg hs l1 l2 l0 lw
  · exact l08Divide_long h h' hf hg hs l1 l2 l0 (by omega)

end Go.Proofs.Ytggojomooodlgaa
