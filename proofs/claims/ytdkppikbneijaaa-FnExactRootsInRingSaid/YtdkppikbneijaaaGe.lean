/- Balls: slices of balls, roots by a prime of any polynomial. -/
import Derived.Test.YtdkppikbneijaaaGc
import Derived.Test.YtdkppikbneijaaaGd
import Derived.Deep.RegionHeld3
import Derived.Deep.AppendLies
namespace Go.Proofs.Ytdkppikbneijaaa
open Go.RowKit
set_option linter.unusedVariables false
set_option linter.unusedSimpArgs false

/-! ### plain -/
theorem sumB_len {p : Int} (hp : 1 ≤ p) (K : Nat) : ∀ L : List (Int × Nat), L.length ≤ sumB p K L
  | [] => Nat.le_refl _
  | b :: L => by
    have ih := sumB_len hp K L
    have : 1 ≤ p.toNat ^ (K - b.2) := Nat.pow_pos (by omega)
    rw [sumB, List.length_cons]
    omega
theorem balls_len {p : Int} (hp : 1 ≤ p) {F : List Int} {k t m : Nat} {r : Int} {L : List (Int × Nat)} (h : BallsOk p F k r t m L) : L.length ≤ p.toNat ^ m := by
  have h1 := cnt_balls hp m L (fun b hb => by obtain ⟨_, h1, h2, h3, _⟩ := h.one b hb; exact ⟨h1, h2, h3⟩) h.apart
  have h2 := cntL_le (inAny p L) (p.toNat ^ m)
  have h3 := sumB_len hp m L
  omega
/-- The fuel and the digits that the recursion goes by. -/
def BCond (p : Int) (n : Nat) (F : List Int) (k t m : Nat) : Prop := 1 ≤ k ∧ (k < n ∧ t + k ≤ m ∨ (k < n + 1 ∧ t + k ≤ m + 1 ∧ ∀ i, p ∣ el F i)) ∧ 0 < n
theorem BCond.ok {p : Int} (hpr : primeB p = true) {n : Nat} {F : List Int} {k t m : Nat} (h : BCond p n F k t m) {r : Int} (h0 : 0 ≤ r) (h1 : r < p ^ t) : BallsOk p F k r t m (ballsL p n F k r t) := by
  obtain ⟨h2, h3, h4⟩ := h
  exact balls_ok hpr n F k r t m h2 (h3.imp (fun h => ⟨by omega, h.2⟩) (fun h => ⟨by omega, h.2⟩)) h4 h0 h1
theorem bcond_next {p : Int} (hpr : primeB p = true) {n : Nat} {F : List Int} {k t m : Nat} {r : Int} (h : BCond p (n + 1) F k t m) (hr0 : 0 ≤ r) (hr1 : r < p ^ t) (hz : contL F ≠ 0) (hv : vp p (contL F) < k) {a : Int} (ha : a ∈ rtL p (F.map fun c => c / p ^ vp p (contL F)) p.toNat) :
    BCond p n (subL (p ^ (k - vp p (contL F))) a p (F.map fun c => c / p ^ vp p (contL F))) (k - vp p (contL F)) (t + 1) m ∧ (0 ≤ a ∧ a < p) ∧ (0 ≤ r + a * p ^ t ∧ r + a * p ^ t < p ^ (t + 1)) ∧ (0 ≤ a * p ^ t ∧ a * p ^ t < p ^ (t + 1)) ∧ t + 1 ≤ m := by
  obtain ⟨hk, hn, _⟩ := h
  have p2 := (primeB_iff.1 hpr).1
  have hpt := pow_pos' (show 1 ≤ p by omega) t
  have hv1 : (∀ i, p ∣ el F i) → 1 ≤ vp p (contL F) := fun h => (vp_dvd p2 hz 1).1 (by rw [Int.pow_succ, Int.pow_zero, Int.one_mul]; exact cont_of h)
  generalize vp p (contL F) = v at *
  generalize (F.map fun c => c / p ^ v) = g at *
  obtain ⟨a0, a1, a2⟩ := (rtL_iff p g p.toNat a).1 ha
  rw [valM_eq, iv_ev] at a2
  have a2 := Int.dvd_of_emod_eq_zero a2
  rw [Int.toNat_of_nonneg (by omega)] at a1
  have hpm : p ∣ p ^ (k - v) := ⟨p ^ (k - v - 1), by rw [Int.mul_comm, ← Int.pow_succ]; congr 1; omega⟩
  have hdiv : ∀ i, p ∣ el (subL (p ^ (k - v)) a p g) i := by
    intro i
    have h1 := (subL_cg (p ^ (k - v)) a p g).el i
    have h2 : p ∣ el (compR a p g) i := by
      cases i with
      | zero => rw [comp_el0]; exact a2
      | succ i => exact comp_dvd a p g i
    exact Int.dvd_of_emod_eq_zero (by
      rw [← Int.emod_emod_of_dvd _ hpm, h1, Int.emod_emod_of_dvd _ hpm]
      exact Int.emod_eq_zero_of_dvd h2)
  have h1 := Int.mul_nonneg a0 (show 0 ≤ p ^ t by omega)
  have h2 := Int.mul_le_mul_of_nonneg_right (show a ≤ p - 1 by omega) (show 0 ≤ p ^ t by omega)
  have h3 : (p - 1) * p ^ t = p ^ (t + 1) - p ^ t := by rw [Int.pow_succ]; grind
  refine ⟨⟨by omega, .inr ⟨?_, ?_, hdiv⟩, ?_⟩, ⟨a0, a1⟩, by omega, by omega, ?_⟩
  all_goals
    rcases hn with h | ⟨h, _, hF⟩
    · omega
    · have := hv1 hF; omega
theorem flat_next {bl : Int → List (Int × Nat)} {L : List Int} {i : Nat} (h : i < L.length) : (L.take i).flatMap bl ++ bl (el L i) = (L.take (i + 1)).flatMap bl := by
  rw [← take_next h, List.flatMap_append]
  simp
theorem flat_le {bl : Int → List (Int × Nat)} {L : List Int} (i : Nat) : ((L.take i).flatMap bl).length ≤ (L.flatMap bl).length := by
  conv => rhs; rw [← List.take_append_drop i L, List.flatMap_append, List.length_append]
  omega

/-! ### roots by a prime -/
set_option maxHeartbeats 1000000 in
theorem valueByZ_any {m x : Int} {v : Value} {f : List Int} {w : World} (h : Reads w v f) (hf : Bd 1000000000 f) (hm : 1 ≤ m ∧ m ≤ 1000000000) (hx : 0 ≤ x ∧ x < m) (hl : f.length ≤ 1000) :
    Calls Try.prog 56 #[.int .i64 m, v, .int .i64 x] w fun e w' => e = .returned (.int .i64 (valM m f x)) ∧ w = w' := by
  obtain ⟨a, cap, rfl, h1, h2⟩ := reads_nil_eq h
  obtain ⟨n, hn⟩ : ∃ n, f.length = n := ⟨_, rfl⟩
  rw [hn] at h h1 hl ⊢
  have HN := Lib.hid hn
  have HR := Lib.hid h
  have HF := Lib.hid hf
  clear h h2 hn hf
  go_enter Try.func56, Try.ntmps56
  go_wp2
  go_loop [7, 8] (fun y c => ∃ (j : Nat) (K : Int), c = .int .i64 K ∧ K + j + 1 = n ∧ j ≤ n ∧ y = .int .i64 (hvS m f x j)) (fun _ c => (intOf c + 1).toNat)
  case atStart => exact ⟨0, (n : Int) - 1, rfl, by omega, by omega, rfl⟩
  case round =>
    obtain ⟨j, K, rfl, hK, hjn, rfl⟩ := hrel
    by_cases hlt : j < n
    · obtain ⟨i, rfl⟩ : ∃ i : Nat, K = (i : Int) := ⟨n - 1 - j, by omega⟩
      have hij : f.length - 1 - j = i := by rw [HN.out]; omega
      obtain ⟨b, o, rfl, hc⟩ := HR.out.at (k := i) (by rw [HN.out]; omega)
      obtain ⟨m1, m2⟩ := val_num (f := f) hm hx j
      obtain ⟨m3, m4⟩ := hvS_bd hm.1 f x j
      have hb := HF.out i
      have HE := Lib.hid (show (hvS m f x j * x + el f i % m) % m = hvS m f x (j + 1) by rw [hvS, hij, Int.add_emod, Int.emod_emod_of_dvd _ (Int.dvd_refl m), ← Int.add_emod])
      have hem := emod_in (el f i) hm.1
      have HK := Lib.hid hK
      have hin : i < n := by omega
      clear hK hij
      go_wp2_with (first | (go_at_call 35; ((with_reducible refine (mod_any (el f i) m _ hm.1 (by omega)).mono ?_); rintro e w' ⟨rfl, rfl⟩)) | (go_at_call 35; ((with_reducible refine (calls_int (mod_any _ m _ hm.1 (by omega)) HE.out).mono ?_); rintro e w' ⟨rfl, rfl⟩)))
      go_round
      case rel => exact ⟨j + 1, (i : Int) - 1, rfl, by have := HK.out; omega, by omega, rfl⟩
      case measure => first | (simp [intOf]; done) | (simp [intOf]; omega)
    · have hK0 : K = -1 := by omega
      have HE := Lib.hid (show valM m f x = hvS m f x j by rw [valM, HN.out, show n = j by omega])
      subst hK0
      go_wp2
      go_ret
      exact ⟨ret_int HE.out.symm, rfl⟩
set_option maxHeartbeats 4000000 in
theorem rootsByZ_any {p : Int} {v : Value} {f : List Int} {w : World} (h : Reads w v f) (hf : Bd 1000000000 f) (hp : 2 ≤ p ∧ p ≤ 97) (hl : f.length ≤ 9) :
    Calls Try.prog 42 #[.int .i64 p, v] w (RetInts (rtL p f p.toNat) w) := by
  have HR := Lib.hid h
  have HF := Lib.hid hf
  clear h hf
  go_enter Try.func42, Try.ntmps42
  go_wp2
  go_loopw [5, 8] (fun l c wr => ∃ k : Nat, c = .int .i64 (k : Int) ∧ (k : Int) ≤ p ∧ Own wr w.heap.size l (rtL p f k) ∧ Below w.heap.size w wr) (fun _ c _ => (p - intOf c).toNat)
  case atStart => exact ⟨0, rfl, by omega, Own.nil, Below.refl _ _⟩
  case round =>
    obtain ⟨k, rfl, hk, hown, hbel⟩ := hrel
    have HO := Lib.hid hown
    have HW := Lib.hid hbel
    have hsw := hbel.size
    have HRW := Lib.hid (HR.out.step HW.out)
    clear hown hbel
    by_cases hlt : (k : Int) < p
    · by_cases hv : valM p f k = 0
      · have HN := Lib.hid (show rtL p f (k + 1) = rtL p f k ++ [(k : Int)] by rw [rtL, if_pos hv])
        have hlen : (rtL p f k).length + 1 ≤ 1099511627776 := by have := rtL_len p f k; omega
        have HV := Lib.hid hv
        clear hv
        go_wp2_with (first | (go_at_call 56; ((with_reducible refine (calls_int (valueByZ_any HRW.out HF.out ⟨by omega, by omega⟩ ⟨by omega, hlt⟩ (by omega)) HV.out).mono ?_); rintro e w' ⟨rfl, rfl⟩)) | (at_builtin; refine append_one _ rfl _ _ rfl rfl HO.out hlen hsw rfl ?_))
        intro vv w3 hown1 hbel1
        rw [← HN.out] at hown1
        have HO3 := Lib.hid hown1
        have HW3 := Lib.hid (HW.out.trans hbel1)
        clear hown1 hbel1
        go_wp2
        go_roundw
        case rel => exact ⟨k + 1, by go_num, by omega, HO3.out, HW3.out⟩
        case measure => simp [intOf]; omega
      · have HN := Lib.hid (show rtL p f (k + 1) = rtL p f k by rw [rtL, if_neg hv])
        have hvb : (valM p f k == 0) = false := by simpa using hv
        clear hv
        go_wp2_with (go_at_call 56; ((with_reducible refine (valueByZ_any HRW.out HF.out ⟨by omega, by omega⟩ ⟨by omega, hlt⟩ (by omega)).mono ?_); rintro e w' ⟨rfl, rfl⟩))
        go_roundw
        case rel => exact ⟨k + 1, by go_num, by omega, by rw [HN.out]; exact HO.out, HW.out⟩
        case measure => simp [intOf]; omega
    · have HE := Lib.hid (show rtL p f p.toNat = rtL p f k by rw [show p.toNat = k by omega])
      go_wp2
      go_ret
      exact ⟨_, rfl, by rw [HE.out]; exact HO.out, HW.out⟩

/-! ### slices of balls -/
def ballCells (L : List (Int × Nat)) : List Value := L.flatMap fun x => [.int .i64 x.1, .int .i64 (x.2 : Int)]
theorem ballCells_append (L M : List (Int × Nat)) : ballCells (L ++ M) = ballCells L ++ ballCells M := by simp [ballCells]
theorem ballCells_len : ∀ L : List (Int × Nat), (ballCells L).length = L.length * 2
  | [] => rfl
  | b :: L => by
    have := ballCells_len L
    simp only [ballCells, List.flatMap_cons, List.length_append, List.length_cons, List.length_nil] at this ⊢
    omega
theorem ballCells_one : ∀ (L : List (Int × Nat)), ∀ u ∈ ballCells L, u.oneCell' = true := by
  intro L u hu
  obtain ⟨b, _, hb⟩ := List.mem_flatMap.1 hu
  simp at hb
  rcases hb with rfl | rfl <;> rfl
/-- v owns the balls L, in blocks from base on. -/
def BallOwn (w : World) (base : Nat) (v : Value) (L : List (Int × Nat)) : Prop := w.ownsRow base 46 2 v L.length (ballCells L)
theorem infoBall : (Try.prog.info? 46).map (fun i => (i.zero, i.size, i.bytes)) = some (some (.agg #[.int .i64 0, .int .i64 0]), 2, 16) := by kernel_rfl
def RetBalls (L : List (Int × Nat)) (w : World) (e : Ending) (w' : World) : Prop := ∃ v, e = .returned v ∧ BallOwn w' w.heap.size v L ∧ Below w.heap.size w w'
theorem BallOwn.kept {w w' : World} {lo : Nat} {v : Value} {L : List (Int × Nat)} {row : Option Nat} (h : BallOwn w lo v L) (hg : w.grownBy w' row) (hne : v.ownBlock = none ∨ v.ownBlock ≠ row) : BallOwn w' lo v L := World.ownsRow.kept h hg hne
theorem BallOwn.step {w w' : World} {lo : Nat} {v : Value} {L : List (Int × Nat)} (h : BallOwn w lo v L) (hb : Below w.heap.size w w') : BallOwn w' lo v L := by
  refine h.kept (below_grown hb) ?_
  cases v.ownBlock with
  | none => exact .inl rfl
  | some k => exact .inr (by simp)
theorem BallOwn.mono {w : World} {lo lo' : Nat} {v : Value} {L : List (Int × Nat)} (h : BallOwn w lo v L) (hl : lo' ≤ lo) : BallOwn w lo' v L := by
  refine ⟨h.1, ?_⟩
  rcases h.2 with h2 | ⟨g, cap, cur, e, hg, r⟩
  · exact .inl h2
  · exact .inr ⟨g, cap, cur, e, by omega, r⟩
theorem BallOwn.nil {w : World} {lo : Nat} : BallOwn w lo (.slice none 0 0) [] := World.ownsRow_nil _ _ _ _
theorem BallOwn.one {w : World} {lo : Nat} (h : lo ≤ w.heap.size) (r : Int) (t : Nat) : BallOwn (w.alloc (.cells #[.int .i64 r, .int .i64 (t : Int)] 46)) lo (.slice (some ⟨w.heap.size, 0, none⟩) 1 1) [(r, t)] := by
  refine ⟨by simp [ballCells], .inr ⟨w.heap.size, 1, #[.int .i64 r, .int .i64 (t : Int)], rfl, h, ?_, by simp, by simp [maxLen], by simp, by simp [ballCells]⟩⟩
  show (w.heap.push _)[w.heap.size]? = _
  simp
theorem BallOwn.news {w : World} {lo g n cap : Nat} {L : List (Int × Nat)} (h : BallOwn w lo (.slice (some ⟨g, 0, none⟩) n cap) L) : ∀ j u, (ballCells L)[j]? = some u → w.cell? ((⟨g, 0, none⟩ : Addr).add j) = some u := by
  intro j u hu
  have hn : n = L.length := by
    rcases h.2 with ⟨h', _⟩ | ⟨g', cap', cur, h', _⟩
    · simp at h'
    · injection h'
  subst hn
  have hj : j < L.length * 2 := by
    apply Decidable.byContradiction; intro hh
    rw [List.getElem?_eq_none (by rw [ballCells_len]; omega)] at hu; cases hu
  rw [Addr.add_lit, Nat.zero_add, World.ownsRow.cellAt h j (by omega), hu]
/-- 'append(out, more...)' as one step of a region that draws. -/
theorem step_append_balls {ops : Array Oper} {o : Oper} {a : Act} {w : World} {K : Act → World → Prop} {Q : Exit → Act → World → Prop} {E : Prop} (hgd : o.guard = none) (s x : Operand)
    (ho : o.op = .call { callee := .builtin .append, args := #[s, x], argTypes := #[42, 42] }) {lo lo2 : Nat} {v u : Value} {L M : List (Int × Nat)} (hs : a.eval s = v) (hown : BallOwn w lo v L)
    (hx : a.eval x = u) (hu : BallOwn w lo2 u M) (hlen : L.length + M.length ≤ 1000000000) (hlo : lo ≤ w.heap.size)
    (h : ∀ v' w', BallOwn w' lo v' (L ++ M) → w.grownBy w' v.ownBlock → Below lo w w' → K (a.put o.dst v') w') : if Region.wanted o (yielded ops a.tmps) = true then Oper.wp Try.prog o a w K Q else E := by
  have hw : Region.wanted o (yielded ops a.tmps) = true := by simp [Region.wanted, hgd]
  rw [if_pos hw]
  obtain ⟨i0, hi, hz0, hz1, hz2⟩ := info_parts infoBall
  have ht : Try.prog.underlying 42 = some (.slice 46) := Try.underlying42
  have hu2 := hu.2
  rcases hu.2 with ⟨rfl, hM⟩ | ⟨g, cap, cur, rfl, hg, hh, hc, hm, hs', htk⟩
  · have hM : M = [] := List.length_eq_zero_iff.1 hM
    subst hM
    have hrun : ∀ ty, (Builtin.append_ #[42, 42] ty #[v, .slice none 0 0]).run Try.prog w = .ok v w := by
      intro ty
      rcases hown.2 with ⟨rfl, h2⟩ | ⟨g, cap, cur, rfl, hg, hh, hc, hm, hs, htk⟩
      · simp [Builtin.append_, run_underlying ht, sizeOf, typeInfo, hi, Builtin.lenOf, Builtin.firstCells]
      · simp [Builtin.append_, run_underlying ht, sizeOf, typeInfo, hi, Builtin.lenOf, Builtin.firstCells, hc, storeCells]
    have hk := h v w (by simpa using hown) ⟨rfl, rfl, rfl, Nat.le_refl _, fun _ _ _ => rfl⟩ (Below.refl _ _)
    unfold Oper.wp execOp
    simp only [ho, resolve, invoke, builtin, Sem.run_bind, Sem.run_pure, Result.andThen_ok, List.map_toArray, List.map_cons, List.map_nil, hs, hx, List.length_nil, hrun]
    exact hk
  · refine wp_append_own _ s x 42 ho lo 46 i0 (.agg #[.int .i64 0, .int .i64 0]) 2 16 Try.underlying42 hi hz0 hz1 hz2 rfl (by decide) v L.length (ballCells L) hs hown ⟨g, 0, none⟩ M.length cap (ballCells M) hx (by rw [ballCells_len]) (BallOwn.news hu) (ballCells_one M) (by unfold maxLen; omega) (by omega) hlo ?_
    intro v' w' h1 h2 _
    refine h v' w' (by unfold BallOwn; rw [List.length_append, ballCells_append]; exact h1) h2 ?_
    exact (Below.refl _ _).grown h2 hlo (fun k hk => (World.ownsRow.lt hown k hk).1)
theorem BallOwn.lt {w : World} {lo : Nat} {v : Value} {L : List (Int × Nat)} (h : BallOwn w lo v L) : ∀ k, v.ownBlock = some k → lo ≤ k ∧ k < w.heap.size := World.ownsRow.lt h

end Go.Proofs.Ytdkppikbneijaaa
