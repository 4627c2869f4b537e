/- Contracts: the reference's roots in a ring, digit by digit. -/
import Derived.Test.YtdkppikbneijaaaGi
namespace Go.Proofs.Ytdkppikbneijaaa
open Go.RowKit
set_option linter.unusedVariables false
set_option linter.unusedSimpArgs false

theorem own_oneR {w : World} {lo : Nat} (h : lo ≤ w.heap.size) (x : Int) : Own (w.alloc (.cells #[.int .i64 x] 2)) lo (.slice (some ⟨w.heap.size, 0, none⟩) 1 1) [x] := by
  refine ⟨by simp, by simp, .inr ⟨w.heap.size, 1, #[.int .i64 x], rfl, h, ?_, by simp, by simp [maxLen], by simp, by simp⟩⟩
  show (w.heap.push _)[w.heap.size]? = _
  simp
def preL (pc : Nat → List Int) (d : Nat) : List Int := (List.range d).flatMap pc
theorem preL_next (pc : Nat → List Int) (d : Nat) : preL pc (d + 1) = preL pc d ++ pc d := by
  rw [preL, List.range_succ, List.flatMap_append, preL]; simp
theorem preL_le (pc : Nat → List Int) (d : Nat) : ∀ e, d ≤ e → (preL pc d).length ≤ (preL pc e).length
  | 0, h => by rw [show d = 0 by omega]; exact Nat.le_refl _
  | e + 1, h => by
    by_cases he : d = e + 1
    · rw [he]; exact Nat.le_refl _
    · have := preL_le pc d e (by omega)
      rw [preL_next, List.length_append]; omega
def RetDeep (p : Int) (K : Nat) (f : List Int) (j : Nat) (x q : Int) (w : World) (e : Ending) (w' : World) : Prop :=
  ∃ (u : Value) (L : List Int) (b : Bool), e = .returned (.tuple #[u, .bool b]) ∧ Own w' w.heap.size u L ∧ Below w.heap.size w w' ∧ L.length ≤ 61 * (j + 1) ∧ (b = true → L = deepL p K f j x q ∧ (L.length ≤ 60 ∨ j = 0)) ∧ (b = false → 60 < (deepL p K f j x q).length)
def DeepAt (p : Int) (K : Nat) (f : List Int) (j : Nat) : Prop := ∀ (n : Nat) (x q : Int) (v : Value) (w : World), Reads w v f → n + j = K → q = p ^ n → 0 ≤ x → x < q →
    Calls Try.prog 21 #[.agg #[.int .i64 p, .int .i64 (K : Int)], v, .int .i64 x, .int .i64 q, .int .i64 (n : Int)] w (RetDeep p K f j x q w)

set_option maxHeartbeats 4000000 in
theorem deep_zero {p : Int} {K : Nat} {f : List Int} (hr : ringB p (K : Int) = true) (hf : Bd 8000000 f) (hl : f.length ≤ 9) : DeepAt p K f 0 := by
  intro n x q v w h hn hq h0 h1
  obtain rfl : n = K := by omega
  obtain ⟨⟨p1, p2⟩, ⟨n1, n2⟩, r2, r3⟩ := ring_bd hr
  have HMO := Lib.hid (fun w => l02Modulus_ring p (n : Int) w hr)
  rw [Int.toNat_natCast] at r2 r3 HMO
  have hD : deepL p n f 0 x q = if valM q f x = 0 then [x] else [] := by rw [deepL, hq]
  rw [← hq] at r2 r3 HMO
  have HR := Lib.hid (h.step (below_box (.cells #[.int .i64 p, .int .i64 (n : Int)] 27)))
  have HF := Lib.hid hf
  by_cases hv : valM q f x = 0
  · have HV := Lib.hid hv
    have HD := Lib.hid (show deepL p n f 0 x q = [x] by rw [hD, if_pos hv])
    clear h hr hq hD hv hf
    go_enter Try.func21, Try.ntmps21
    go_wp2_with (first | (go_at_call 20; ((with_reducible refine (HMO.out _).mono ?_); rintro e w' ⟨rfl, rfl⟩)) | (go_at_call 32; ((with_reducible refine (calls_int (l11Value_any HR.out HF.out ⟨by omega, by omega⟩ ⟨h0, h1⟩ (by omega)) HV.out).mono ?_); rintro e w' ⟨rfl, rfl⟩)))
    go_ret2
    exact ⟨.slice (some ⟨w.heap.size + 1, 0, none⟩) 1 1, [x], true, by simp, by have := own_oneR (w := w.alloc (.cells #[.int .i64 p, .int .i64 (n : Int)] 27)) (lo := w.heap.size) (by simp) x; simpa using this, ((below_box _).trans ((below_box _).mono (by simp))), by simp, fun _ => ⟨HD.out.symm, .inr rfl⟩, fun h => by cases h⟩
  · have hvb : (valM q f x == 0) = false := by simpa using hv
    have HD := Lib.hid (show deepL p n f 0 x q = [] by rw [hD, if_neg hv])
    clear h hr hq hD hv hf
    go_enter Try.func21, Try.ntmps21
    go_wp2_with (first | (go_at_call 20; ((with_reducible refine (HMO.out _).mono ?_); rintro e w' ⟨rfl, rfl⟩)) | (go_at_call 32; ((with_reducible refine (l11Value_any HR.out HF.out ⟨by omega, by omega⟩ ⟨h0, h1⟩ (by omega)).mono ?_); rintro e w' ⟨rfl, rfl⟩)))
    go_ret2
    exact ⟨.slice (some ⟨w.heap.size + 1, 0, none⟩) 0 0, [], true, by simp, by have := own_empty (w := w.alloc (.cells #[.int .i64 p, .int .i64 (n : Int)] 27)) (lo := w.heap.size) (by simp); simpa using this, ((below_box _).trans ((below_box _).mono (by simp))), by simp, fun _ => ⟨HD.out.symm, .inr rfl⟩, fun h => by cases h⟩

set_option maxHeartbeats 8000000 in
set_option maxRecDepth 100000 in
theorem deep_step {p : Int} {K : Nat} {f : List Int} (hr : ringB p (K : Int) = true) (hf : Bd 8000000 f) (hl : f.length ≤ 9) (j : Nat) (hih : DeepAt p K f j) : DeepAt p K f (j + 1) := by
  intro n x q v w h hn hq h0 h1
  obtain ⟨⟨p1, p2⟩, ⟨n1, n2⟩, r2, r3⟩ := ring_bd hr
  have HMO := Lib.hid (fun w => l02Modulus_ring p (K : Int) w hr)
  rw [Int.toNat_natCast] at r2 r3 HMO
  have hq1 : q * p = p ^ (n + 1) := by rw [hq, Int.pow_succ]
  have hqK := pow_mono (show 1 ≤ p by omega) (show n + 1 ≤ K by omega)
  rw [← hq1] at hqK
  have hqp := Int.mul_le_mul_of_nonneg_left (show 1 ≤ p by omega) (show 0 ≤ q by omega)
  rw [Int.mul_one] at hqp
  obtain ⟨M, hM⟩ : ∃ M, p ^ K = M := ⟨_, rfl⟩
  rw [hM] at r2 r3 HMO hqK
  have HR := Lib.hid (h.step (below_box (.cells #[.int .i64 p, .int .i64 (K : Int)] 27)))
  have HF := Lib.hid hf
  obtain ⟨pc, hpc⟩ : ∃ pc : Nat → List Int, (fun d : Nat => if valM (q * p) f (x + d * q) = 0 then deepL p K f j (x + d * q) (q * p) else []) = pc := ⟨_, rfl⟩
  have HPC := Lib.hid (fun d => (congrFun hpc d).symm)
  have HD := Lib.hid (show deepL p K f (j + 1) x q = preL pc p.toNat by rw [deepL, hpc, preL])
  have HIH := Lib.hid (fun (d : Nat) (hd : (d : Int) < p) (h0' : 0 ≤ x + d * q) (h1' : x + d * q < q * p) v w hR => hih (n + 1) (x + d * q) (q * p) v w hR (by omega) hq1 h0' h1')
  obtain ⟨Q, hQ⟩ : ∃ Q, q * p = Q := ⟨_, rfl⟩
  rw [hQ] at hqK hqp
  simp only [hQ] at HPC HIH
  have HQ := Lib.hid hQ
  have hnK : ¬ ((n : Int) = K) := by omega
  have hnb : ((n : Int) == (K : Int)) = false := by simpa using hnK
  clear h hr hq hM hpc hih hf hq1
  go_enter Try.func21, Try.ntmps21
  go_wp2_with (first | (go_at_call 20; ((with_reducible refine (HMO.out _).mono ?_); rintro e w' ⟨rfl, rfl⟩)))
  go_loopw [13, 14] (fun l c wr => ∃ d : Nat, c = .int .i64 (d : Int) ∧ (d : Int) ≤ p ∧ Own wr (w.heap.size + 1) l (preL pc d) ∧ (preL pc d).length ≤ 60 ∧ Below (w.heap.size + 1) (w.alloc (.cells #[.int .i64 p, .int .i64 (K : Int)] 27)) wr) (fun _ c _ => (p - intOf c).toNat)
  case atStart => exact ⟨0, rfl, by omega, by have := own_empty (w := w.alloc (.cells #[.int .i64 p, .int .i64 (K : Int)] 27)) (lo := w.heap.size + 1) (by simp); simpa [preL] using this, by simp [preL], by have := below_box (w := w.alloc (.cells #[.int .i64 p, .int .i64 (K : Int)] 27)) (.cells #[] 2); simpa using this⟩
  case round =>
    obtain ⟨d, rfl, hd, hown, hlen, hbel⟩ := hrel
    have e1 := hbel.cell (p := ⟨w.heap.size, 0, none⟩) (by simp)
    have e2 := hbel.cell (p := ⟨w.heap.size, 1, none⟩) (by simp)
    simp at e1 e2
    have HO := Lib.hid hown
    have HW := Lib.hid (show Below (w.alloc (.cells #[.int .i64 p, .int .i64 (K : Int)] 27)).heap.size (w.alloc (.cells #[.int .i64 p, .int .i64 (K : Int)] 27)) wr by simpa using hbel)
    have hsw := hbel.size
    simp at hsw
    clear hown hbel
    have HR1 := Lib.hid (HR.out.step HW.out)
    by_cases hlt : (d : Int) < p
    · have t1 := Int.mul_nonneg (show 0 ≤ (d : Int) by omega) (show 0 ≤ q by omega)
      have t2 : x + (d : Int) * q < Q := by
        have e2 := Int.mul_le_mul_of_nonneg_right (show (d : Int) + 1 ≤ p by omega) (show 0 ≤ q by omega)
        rw [Int.add_mul, Int.one_mul] at e2
        rw [← HQ.out, Int.mul_comm q p]
        omega
      have hih := HIH.out d hlt (by omega) t2
      have hpd := HPC.out d
      have hnx := preL_next pc d
      have hle := preL_le pc (d + 1) p.toNat (by omega)
      obtain ⟨D, hDq⟩ : ∃ D, (d : Int) * q = D := ⟨_, rfl⟩
      rw [hDq] at t1 t2 hih hpd
      obtain ⟨y, hy⟩ : ∃ y, x + D = y := ⟨_, rfl⟩
      rw [hy] at t2 hih hpd
      by_cases hv : valM Q f y = 0
      · have HV := Lib.hid hv
        rw [if_pos hv] at hpd
        have HPD := Lib.hid hpd
        have HNX := Lib.hid hnx
        have HI := Lib.hid (show ∀ v w, Reads w v f → Calls Try.prog 21 #[.agg #[.int .i64 p, .int .i64 (K : Int)], v, .int .i64 y, .int .i64 Q, .int .i64 ((n : Int) + 1)] w (RetDeep p K f j y Q w) from fun v w hR => by have := hih v w hR; rwa [Int.natCast_add] at this)
        clear hv hpd hnx hih
        have w1 : IntKind.i64.wrap ((d : Int) * q) = D := by rw [hDq]; exact IntWalk.i64_in _ (by omega)
        have w2 : IntKind.i64.wrap (x + D) = y := by rw [hy]; exact IntWalk.i64_in _ (by omega)
        have w3 : IntKind.i64.wrap (q * p) = Q := by rw [HQ.out]; exact IntWalk.i64_in _ (by omega)
        go_wp2_with (first | (go_at_call 32; ((with_reducible refine (calls_int (l11Value_any HR1.out HF.out ⟨by omega, by omega⟩ ⟨by omega, by omega⟩ (by omega)) HV.out).mono ?_); rintro e w' ⟨rfl, rfl⟩)) | (go_at_call 21; with_reducible refine (HI.out _ _ HR1.out).mono ?_))
        rintro _ w2 ⟨v2, L2, b2, rfl, o2, hb2, hl2, ht2, hf2⟩
        have hs2 := hb2.size
        have e3 := (hb2.cell (p := ⟨w.heap.size, 0, none⟩) (by show w.heap.size < _; omega)).trans e1
        have e4 := (hb2.cell (p := ⟨w.heap.size, 1, none⟩) (by show w.heap.size < _; omega)).trans e2
        have HO2 := Lib.hid (HO.out.step hb2)
        have HW2 := Lib.hid (HW.out.trans (hb2.mono HW.out.size))
        have HM2 := Lib.hid o2.reads
        have hll : (preL pc d).length + L2.length ≤ 1099511627776 := by omega
        rw [← HPD.out] at ht2 hf2
        clear o2 hb2 e1 e2
        rcases Bool.eq_false_or_eq_true b2 with hb | hb
        · subst hb
          obtain ⟨hLp, _⟩ := ht2 rfl
          subst hLp
          clear ht2 hf2
          have hnl : (preL pc (d + 1)).length = (preL pc d).length + (pc d).length := by rw [HNX.out, List.length_append]
          obtain ⟨N1, hN1⟩ : ∃ N1, (preL pc (d + 1)).length = N1 := ⟨_, rfl⟩
          go_wp2_with (at_builtin; refine append_reads _ rfl _ _ rfl rfl HO2.out rfl HM2.out hll (by omega) ?_)
          intro v5 w5 o5 g5 b5
          rw [← HNX.out] at o5
          obtain ⟨av, cv, e5, l5, _⟩ := reads_nil_eq o5.reads
          subst e5
          rw [hN1] at o5 l5 ⊢
          have HO5 := Lib.hid o5
          have HW5 := Lib.hid (show Below (w.heap.size + 1) (w.alloc (.cells #[.int .i64 p, .int .i64 (K : Int)] 27)) w5 by have := HW2.out; simp at this; exact this.trans b5)
          clear o5 g5 b5
          rw [hN1] at hnl
          rcases Nat.lt_or_ge 60 N1 with h60 | h60
          · have HTT := Lib.hid (show 60 < (deepL p K f (j + 1) x q).length by rw [HD.out]; omega)
            go_wp2
            go_ret2
            exact ⟨.slice av N1 cv, preL pc (d + 1), false, rfl, HO5.out.mono (by omega), (below_box _).trans (HW5.out.mono (by omega)), by omega, fun h => by (cases h), fun _ => HTT.out⟩
          · go_wp2
            go_roundw
            case rel => exact ⟨d + 1, by go_num, by omega, HO5.out, by omega, HW5.out⟩
            case measure => simp [intOf]; omega
        · subst hb
          have h60 := hf2 rfl
          clear ht2 hf2
          have HTT := Lib.hid (show 60 < (deepL p K f (j + 1) x q).length by rw [HD.out]; rw [HNX.out, List.length_append] at hle; omega)
          go_wp2_with (at_builtin; refine append_reads _ rfl _ _ rfl rfl HO2.out rfl HM2.out hll (by omega) ?_)
          intro v5 w5 o5 g5 b5
          have HO5 := Lib.hid o5
          have HB5 := Lib.hid b5
          clear o5 g5 b5
          go_wp2
          go_ret2
          exact ⟨v5, preL pc d ++ L2, false, rfl, HO5.out.mono (by omega), (below_box _).trans (((by simpa using HW2.out : Below (w.heap.size + 1) _ _).trans HB5.out).mono (by omega)), by rw [List.length_append]; omega, fun h => by (cases h), fun _ => HTT.out⟩
      · have hvb : (valM Q f y == 0) = false := by simpa using hv
        rw [if_neg hv] at hpd
        rw [hpd, List.append_nil] at hnx
        have HNX := Lib.hid hnx
        clear hv hpd hnx hih
        have w1 : IntKind.i64.wrap ((d : Int) * q) = D := by rw [hDq]; exact IntWalk.i64_in _ (by omega)
        have w2 : IntKind.i64.wrap (x + D) = y := by rw [hy]; exact IntWalk.i64_in _ (by omega)
        have w3 : IntKind.i64.wrap (q * p) = Q := by rw [HQ.out]; exact IntWalk.i64_in _ (by omega)
        go_wp2_with (first | (go_at_call 32; ((with_reducible refine (l11Value_any HR1.out HF.out ⟨by omega, by omega⟩ ⟨by omega, by omega⟩ (by omega)).mono ?_); rintro e w' ⟨rfl, rfl⟩)))
        go_roundw
        case rel => exact ⟨d + 1, by go_num, by omega, by rw [HNX.out]; exact HO.out, by rw [HNX.out]; exact hlen, by have := HW.out; simpa using this⟩
        case measure => simp [intOf]; omega
    · have HE := Lib.hid (show preL pc d = deepL p K f (j + 1) x q by rw [HD.out, show p.toNat = d by omega])
      go_wp2
      go_ret2
      exact ⟨u13, preL pc d, true, rfl, HO.out.mono (by omega), (below_box _).trans (HW.out.mono (by simp)), by omega, fun _ => ⟨HE.out, .inl hlen⟩, fun h => by cases h⟩

end Go.Proofs.Ytdkppikbneijaaa
