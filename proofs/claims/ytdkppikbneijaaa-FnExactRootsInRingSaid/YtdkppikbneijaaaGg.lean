/- Contracts: the balls of all roots in a ring, and how many roots these are. -/
import Derived.Test.YtdkppikbneijaaaGf
namespace Go.Proofs.Ytdkppikbneijaaa
open Go.RowKit
set_option linter.unusedVariables false
set_option linter.unusedSimpArgs false

/-! ### plain -/
theorem redM_in {m : Int} (hm : 1 ≤ m) (f : List Int) : In m (redM m f) := In.of hm (fun x hx => by
  obtain ⟨c, _, rfl⟩ := List.mem_map.1 hx
  exact emod_in c hm)
theorem redM_val (m : Int) (f : List Int) (x : Int) : valM m (redM m f) x = valM m f x := by
  rw [valM_eq, valM_eq, iv_ev, iv_ev, ev_mods m f x, redM, Int.add_mul_emod_self_left]
theorem sumB_append (p : Int) (K : Nat) : ∀ L M : List (Int × Nat), sumB p K (L ++ M) = sumB p K L + sumB p K M
  | [], M => by simp [sumB]
  | b :: L, M => by rw [List.cons_append, sumB, sumB, sumB_append p K L M]; omega
def rbL (p n : Int) (f : List Int) : List (Int × Nat) := ballsL p (n.toNat + 1) (redM (p ^ n.toNat) f) n.toNat 0 0
def rbS (p n : Int) (f : List Int) : Nat := sumB p n.toNat (rbL p n f)
theorem rb_cond {p n : Int} (hr : ringB p n = true) (f : List Int) : BCond p (n.toNat + 1) (redM (p ^ n.toNat) f) n.toNat 0 n.toNat := by
  obtain ⟨_, ⟨h1, _⟩, _⟩ := ring_bd hr
  exact ⟨by omega, .inl ⟨by omega, by omega⟩, by omega⟩
theorem rb_ok {p n : Int} (hr : ringB p n = true) (f : List Int) : BallsOk p (redM (p ^ n.toNat) f) n.toNat 0 0 n.toNat (rbL p n f) :=
  (rb_cond hr f).ok (ring_prime hr) (Int.le_refl 0) (by simp)
/-- The balls hold as many numbers as there are roots below the modulus. -/
theorem rb_count {p n : Int} (hr : ringB p n = true) (f : List Int) : cntL (fun x => decide (valM (p ^ n.toNat) f x = 0)) (p.toNat ^ n.toNat) = rbS p n f := by
  obtain ⟨_, ⟨h1, _⟩, _⟩ := ring_bd hr
  rw [rbS, rbL, ← count_balls (ring_prime hr) (by omega)]
  exact cntL_congr fun x _ => by rw [redM_val]
theorem rb_le {p n : Int} (hr : ringB p n = true) (f : List Int) : (rbS p n f : Int) ≤ p ^ n.toNat := by
  obtain ⟨⟨h0, _⟩, _⟩ := ring_bd hr
  rw [← rb_count hr f]
  have := cntL_le (fun x : Nat => decide (valM (p ^ n.toNat) f x = 0)) (p.toNat ^ n.toNat)
  have h2 : ((p.toNat ^ n.toNat : Nat) : Int) = p ^ n.toNat := by rw [Int.natCast_pow, Int.toNat_of_nonneg (by omega)]
  omega
theorem sumB_take {p : Int} {K : Nat} {L : List (Int × Nat)} {i : Nat} (h : i < L.length) : sumB p K (L.take (i + 1)) = sumB p K (L.take i) + p.toNat ^ (K - L[i].2) := by
  rw [List.take_add_one, List.getElem?_eq_getElem h, Option.toList_some, sumB_append]
  simp [sumB]
theorem sumB_take_le {p : Int} {K : Nat} (L : List (Int × Nat)) (i : Nat) : sumB p K (L.take i) ≤ sumB p K L := by
  conv => rhs; rw [← List.take_append_drop i L, sumB_append]
  omega

/-- The next ball of a slice: its two cells, and what the sum grows by. -/
theorem ballCells_get {L : List (Int × Nat)} {i : Nat} (h : i < L.length) : (ballCells L)[i * 2]? = some (.int .i64 L[i].1) ∧ (ballCells L)[i * 2 + 1]? = some (.int .i64 (L[i].2 : Int)) := by
  induction L generalizing i with
  | nil => simp at h
  | cons b L ih =>
    cases i with
    | zero => exact ⟨rfl, rfl⟩
    | succ i =>
      have h2 := ih (i := i) (by simpa using h)
      rw [show (i + 1) * 2 = i * 2 + 1 + 1 by omega]
      exact h2
def RetRB (p n : Int) (f : List Int) (w : World) (e : Ending) (w' : World) : Prop := ∃ u, e = .returned (.tuple #[u, .int .i64 (rbS p n f : Int)]) ∧ BallOwn w' w.heap.size u (rbL p n f) ∧ Below w.heap.size w w'
theorem BallOwn.open {w : World} {lo : Nat} {v : Value} {L : List (Int × Nat)} (h : BallOwn w lo v L) : ∃ a cap, v = .slice a L.length cap ∧ (∀ i, i < L.length → ∃ g, a = some ⟨g, 0, none⟩ ∧ g < w.heap.size ∧ lo ≤ g) := by
  rcases h.2 with ⟨rfl, h2⟩ | ⟨g, cap, cur, rfl, hg, hh, _⟩
  · exact ⟨none, 0, by rw [h2], fun i hi => by omega⟩
  · exact ⟨some ⟨g, 0, none⟩, cap, rfl, fun i _ => ⟨g, rfl, (Array.getElem?_eq_some_iff.1 hh).1, hg⟩⟩

set_option maxHeartbeats 4000000 in
set_option maxRecDepth 100000 in
theorem rootBalls_any {p n : Int} {v : Value} {f : List Int} {w : World} (h : Reads w v f) (hr : ringB p n = true) (hf : Bd 1000000 f) (hl : f.length ≤ 9) :
    Calls Try.prog 27 #[.agg #[.int .i64 p, .int .i64 n], v] w (RetRB p n f w) := by
  obtain ⟨⟨p1, p2⟩, ⟨n1, n2⟩, r2, r3⟩ := ring_bd hr
  have hpr := ring_prime hr
  have hc := rb_cond hr f
  have hlen := balls_len (show 1 ≤ p by omega) (rb_ok hr f)
  have hle := rb_le hr f
  have hok := rb_ok hr f
  have HS := Lib.hid hr
  clear hr
  obtain ⟨K, rfl⟩ : ∃ K : Nat, n = (K : Int) := ⟨n.toNat, by omega⟩
  have hS : rbS p (K : Int) f = sumB p K (rbL p (K : Int) f) := by rw [rbS, Int.toNat_natCast]
  have hmo := modulus_any p (K : Int)
  rw [Int.toNat_natCast] at r2 r3 hc hlen hle hok hmo
  obtain ⟨N, hN⟩ : ∃ N, f.length = N := ⟨_, rfl⟩
  have hin := redM_in (show 1 ≤ p ^ K by omega) f
  have hba := balls_any hpr p2 r3 (K + 1) (redM (p ^ K) f) K 0 0
  obtain ⟨L, hL⟩ : ∃ L, rbL p (K : Int) f = L := ⟨_, rfl⟩
  have hL2 : ballsL p (K + 1) (redM (p ^ K) f) K 0 0 = L := by rw [← hL, rbL, Int.toNat_natCast]
  rw [hL] at hlen hok hS
  rw [hL2] at hba
  have hlen2 : L.length ≤ 1000000000 := by
    have : ((p.toNat ^ K : Nat) : Int) = p ^ K := by rw [Int.natCast_pow, Int.toNat_of_nonneg (by omega)]
    omega
  have HL := Lib.hid hL
  have HBA := Lib.hid (show ∀ (v : Value) (w : World), Reads w v (redM (p ^ K) f) → Calls Try.prog 36 #[.int .i64 p, v, .int .i64 (K : Int), .agg #[.int .i64 0, .int .i64 0]] w (RetBalls L w) from fun v w hR => hba v w hR hin (by rw [redM_len]; omega) (Nat.le_refl K) (by omega) (by omega) (by omega) hc (Int.le_refl 0) (by simp))
  have HMO := Lib.hid (fun w => hmo w HS.out)
  have HOK := Lib.hid hok.one
  have HSS := Lib.hid hS
  rw [hS] at hle
  obtain ⟨M, hM⟩ : ∃ M, p ^ K = M := ⟨_, rfl⟩
  rw [hM] at r2 r3 hle hin HBA HMO
  have HM := Lib.hid hM
  obtain ⟨F, hF⟩ : ∃ F, redM M f = F := ⟨_, rfl⟩
  have HFL := Lib.hid (show F.length = N by rw [← hF, redM_len]; exact hN)
  rw [hF] at HBA
  have HF := Lib.hid hF
  obtain ⟨a, cap, rfl, h1, h2⟩ := reads_nil_eq h
  rw [hN] at h h1 hl ⊢
  have HN := Lib.hid hN
  have HR := Lib.hid (h.step (below_box (.cells #[.int .i64 p, .int .i64 (K : Int)] 27)))
  clear hpr hc hlen hok hmo hba hL hL2 hS hin hM hF hN h h2
  go_enter Try.func27, Try.ntmps27
  go_wp2
  go_loopw [6, 15] (fun l c wr => ∃ i : Nat, c = .int .i64 (i : Int) ∧ i ≤ N ∧ Own wr (w.heap.size + 1) l (F.take i) ∧ Below (w.heap.size + 1) (w.alloc (.cells #[.int .i64 p, .int .i64 (K : Int)] 27)) wr) (fun _ c _ => N - (intOf c).toNat)
  case atStart => exact ⟨0, rfl, by omega, Own.nil, by have := Below.refl (w.heap.size + 1) (w.alloc (.cells #[.int .i64 p, .int .i64 (K : Int)] 27)); exact this⟩
  case round =>
    obtain ⟨i, rfl, hi, hown, hbel⟩ := hrel
    have e1 := hbel.cell (p := ⟨w.heap.size, 0, none⟩) (by simp)
    have e2 := hbel.cell (p := ⟨w.heap.size, 1, none⟩) (by simp)
    simp at e1 e2
    have HO := Lib.hid hown
    have HW := Lib.hid (show Below (w.alloc (.cells #[.int .i64 p, .int .i64 (K : Int)] 27)).heap.size (w.alloc (.cells #[.int .i64 p, .int .i64 (K : Int)] 27)) wr by simpa using hbel)
    have hsw := hbel.size
    simp at hsw
    clear hown hbel
    have HR1 := Lib.hid (HR.out.step HW.out)
    by_cases hlt : i < N
    · obtain ⟨b1, o1, rfl, hc⟩ := HR1.out.at (k := i) (by rw [HN.out]; exact hlt)
      have hL : (F.take i).length + 1 ≤ 1099511627776 := by rw [List.length_take]; omega
      go_wp2_with (go_at_call 28; with_reducible refine (HMO.out _).mono ?_)
      rintro _ w4 ⟨rfl, hb4⟩
      have HO4 := Lib.hid (HO.out.step hb4)
      have HW4 := Lib.hid (HW.out.trans (hb4.mono HW.out.size))
      have hs4 := hb4.size
      clear hb4
      go_wp2_with (first | (go_at_call 35; ((with_reducible refine (mod_any _ M _ (by omega) (by omega)).mono ?_); rintro e w' ⟨rfl, rfl⟩)) | (at_builtin; refine append_one _ rfl _ _ rfl rfl HO4.out hL (by omega) rfl ?_))
      intro vv w2 hown1 hbel1
      rw [← HF.out, redM_next (by rw [HN.out]; exact hlt), HF.out] at hown1
      have HO1 := Lib.hid hown1
      have HW1 := Lib.hid (show Below (w.heap.size + 1) (w.alloc (.cells #[.int .i64 p, .int .i64 (K : Int)] 27)) w2 by have := HW4.out; simp at this; exact this.trans hbel1)
      clear hown1 hbel1 e1 e2
      go_wp2
      go_roundw
      case rel => exact ⟨i + 1, by go_num, by omega, HO1.out, HW1.out⟩
      case measure => simp [intOf]; omega
    · have HE := Lib.hid (show Own wr (w.heap.size + 1) u6 F by have := HO.out; rw [List.take_of_length_le (by rw [HFL.out]; omega)] at this; exact this)
      go_wp2_with (go_at_call 36; with_reducible refine (HBA.out _ _ HE.out.reads).mono ?_)
      rintro _ w5 ⟨v5, rfl, o5, hb5⟩
      have e3 := (hb5.cell (p := ⟨w.heap.size, 0, none⟩) (by show w.heap.size < _; omega)).trans e1
      have e4 := (hb5.cell (p := ⟨w.heap.size, 1, none⟩) (by show w.heap.size < _; omega)).trans e2
      have hs5 := hb5.size
      have HB5 := Lib.hid (show Below w.heap.size w w5 from (below_box (.cells #[.int .i64 p, .int .i64 (K : Int)] 27)).trans ((HW.out.mono (by simp)).trans (hb5.mono (by omega))))
      have HO5 := Lib.hid o5
      obtain ⟨ad, cp, rfl, hcell⟩ := BallOwn.open o5
      have hlt5 : w.heap.size < w5.heap.size := by omega
      obtain ⟨M0, hM0⟩ : ∃ M0, L.length = M0 := ⟨_, rfl⟩
      rw [hM0] at hcell HO5 hlen2 ⊢
      have HM0 := Lib.hid hM0
      have HC := Lib.hid hcell
      clear o5 hb5 hM0 hcell e1 e2 HO HE HR1
      go_wp2
      go_loopw [10, 36] (fun l c wr2 => ∃ i : Nat, c = .int .i64 (i : Int) ∧ i ≤ M0 ∧ l = .int .i64 ((sumB p K (L.take i) : Nat) : Int) ∧ Below w5.heap.size w5 wr2) (fun _ c _ => M0 - (intOf c).toNat)
      case atStart => exact ⟨0, rfl, by omega, rfl, Below.refl _ _⟩
      case round =>
        clear hi hlt
        obtain ⟨i, rfl, hi, rfl, hbel⟩ := hrel
        have HW2 := Lib.hid hbel
        have hsw := hbel.size
        have e1 := (hbel.cell (p := ⟨w.heap.size, 0, none⟩) hlt5).trans e3
        have e2 := (hbel.cell (p := ⟨w.heap.size, 1, none⟩) hlt5).trans e4
        have HO6 := Lib.hid (HO5.out.step hbel)
        clear hbel
        by_cases hlt : i < M0
        · obtain ⟨g, rfl, hg1, hg2⟩ := HC.out i hlt
          obtain ⟨g1, g2⟩ := ballCells_get (L := L) (i := i) (by rw [HM0.out]; exact hlt)
          have c1 := BallOwn.news HO6.out _ _ g1
          have c2 := BallOwn.news HO6.out _ _ g2
          have HT := Lib.hid (sumB_take (p := p) (K := K) (L := L) (i := i) (by rw [HM0.out]; exact hlt))
          have hmem : L[i]'(by rw [HM0.out]; exact hlt) ∈ L := List.getElem_mem _
          obtain ⟨d0, d1, d2, d3, _⟩ := HOK.out _ hmem
          have htl := sumB_take_le (p := p) (K := K) L (i + 1)
          have htl2 := HT.out
          obtain ⟨⟨br, bd⟩, hb⟩ : ∃ b, L[i]'(by rw [HM0.out]; exact hlt) = b := ⟨_, rfl⟩
          rw [hb] at c1 c2 HT d0 d1 d2 d3 htl2
          simp only [Addr.add_lit, Nat.zero_add] at c1 c2 d0 d1 d2 d3 htl2
          have hpw : p ^ ((K : Int) - (bd : Int)).toNat = ((p.toNat ^ (K - bd) : Nat) : Int) := by
            rw [Int.natCast_pow, Int.toNat_of_nonneg (by omega)]; congr 1; omega
          obtain ⟨q, hq⟩ : ∃ q, p.toNat ^ (K - bd) = q := ⟨_, rfl⟩
          obtain ⟨s0, hs0⟩ : ∃ s0, sumB p K (L.take i) = s0 := ⟨_, rfl⟩
          simp only [hq, hs0] at hpw htl2 HT ⊢
          have HPW := Lib.hid hpw
          clear hmem hb d3 g1 g2 hpw hq hs0
          have hba : Below wr.heap.size wr (wr.alloc (.cells #[.int .i64 br, .int .i64 (bd : Int)] 46)) := below_box _
          have k1 := (hba.cell (p := ⟨w.heap.size, 0, none⟩) (by show w.heap.size < _; omega)).trans e1
          have k2 := (hba.cell (p := ⟨w.heap.size, 1, none⟩) (by show w.heap.size < _; omega)).trans e2
          have HW3 := Lib.hid (HW2.out.trans (hba.mono hsw))
          clear hba
          go_wp2_with (go_at_call 29; ((with_reducible refine (calls_int (power_any p ((K : Int) - (bd : Int)) _ (by omega) (by rw [HPW.out]; omega) (by rw [HPW.out]; omega)) HPW.out).mono ?_); rintro e w' ⟨rfl, rfl⟩))
          go_roundw
          case rel => exact ⟨i + 1, by go_num, by omega, by rw [HT.out]; go_num, HW3.out⟩
          case measure => simp [intOf]; omega
        · have HE := Lib.hid (show sumB p K (L.take i) = rbS p (K : Int) f by rw [List.take_of_length_le (by rw [HM0.out]; omega)]; exact HSS.out.symm)
          go_wp2
          go_ret2
          exact ⟨.slice ad M0 cp, by rw [HE.out]; rfl, by rw [HL.out]; exact HO6.out.mono (by omega), HB5.out.trans (HW2.out.mono HB5.out.size)⟩

end Go.Proofs.Ytdkppikbneijaaa
