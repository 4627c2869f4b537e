/- Contracts: the prime powers of a number. -/
import Derived.Test.YtlndfjplhfgicaaH
namespace Go.Proofs.Ytlndfjplhfgicaa
open Go.RowKit
set_option linter.unusedVariables false
set_option linter.unusedSimpArgs false

/-- A list of prime powers as cells. -/
def powCells (L : List (Int × Int)) : List Value := L.flatMap fun x => [.int .i64 x.1, .int .i64 x.2]
theorem powCells_snoc (L : List (Int × Int)) (p k : Int) : powCells (L ++ [(p, k)]) = powCells L ++ [.int .i64 p, .int .i64 k] := by simp [powCells]
/-- v owns the list L, in blocks from base on. -/
def PowOwn (w : World) (base : Nat) (v : Value) (L : List (Int × Int)) : Prop := w.ownsRow base 39 2 v L.length (powCells L)
/-- The list of prime powers comes back, in new memory. -/
def RetFact (n : Int) (w : World) (e : Ending) (w' : World) : Prop := ∃ v, e = .returned v ∧ PowOwn w' w.heap.size v (factL n) ∧ Below w.heap.size w w'
theorem infoPow : (Try.prog.info? 39).map (fun i => (i.zero, i.size, i.bytes)) = some (some (.agg #[.int .i64 0, .int .i64 0]), 2, 16) := by kernel_rfl

theorem pow_rel {w wr w1 : World} {v v1 : Value} {L : List (Int × Int)} {p k : Int} (hb : Below w.heap.size w wr) (hown : PowOwn wr w.heap.size v L) {o : Obj}
    (hown1 : w1.ownsRow w.heap.size 39 2 v1 (L.length + 1) (powCells L ++ [.int .i64 p, .int .i64 k])) (hg : (wr.alloc o).grownBy w1 v.ownBlock) :
    PowOwn w1 w.heap.size v1 (L ++ [(p, k)]) ∧ Below w.heap.size w w1 := by
  refine ⟨?_, ?_⟩
  · unfold PowOwn
    rw [List.length_append, powCells_snoc]
    exact hown1
  · have h1 : Below w.heap.size w (wr.alloc o) := hb.alloc (by have := hb.size; omega) o
    exact h1.grown hg (by have := hb.size; simp; omega) (fun k hk => (World.ownsRow.lt hown k hk).1)

theorem two_cells (p k : Int) : ∀ u ∈ [Value.int .i64 p, Value.int .i64 k], u.oneCell' = true := by
  intro u hu
  simp at hu
  rcases hu with rfl | rfl <;> rfl
/-- The loops' measure: nothing is left once the number is 1. -/
def facMeas (a q : Int) : Nat := if a ≤ 1 then 0 else (2000004 - q).toNat + 1
theorem facMeas_step {a b q r : Int} (h : 1 < a) (hq : q < r) (hr : r ≤ 1000003) : facMeas b r < facMeas a q := by
  unfold facMeas; rw [if_neg (show ¬ a ≤ 1 by omega)]; split <;> omega
theorem facMeas_one {a b q r : Int} (h : 1 < a) (hb : b ≤ 1) : facMeas b r < facMeas a q := by
  unfold facMeas; rw [if_pos hb, if_neg (show ¬ a ≤ 1 by omega)]; omega
/-- The step of the loops that divide by Q as often as it goes. -/
theorem vInv_exit {Q N M : Int} {k : Nat} (hQ : 2 ≤ Q) (h : VInv Q N M k) (hd : M % Q ≠ 0) : vp Q N = k ∧ N / Q ^ vp Q N = M := by
  have h4 := pow_pos' (show 1 ≤ Q by omega) k
  have h5 := vInv_end hQ h hd
  refine ⟨h5, ?_⟩
  rw [h5]
  conv => lhs; rw [h.1]
  exact Int.mul_ediv_cancel _ (by omega)
theorem vInv_pos {Q N M : Int} {k : Nat} (hQ : 2 ≤ Q) (hN : 1 ≤ N) (h : VInv Q N M k) : 1 ≤ M := by
  have h4 := pow_pos' (show 1 ≤ Q by omega) k
  apply Decidable.byContradiction
  intro hM
  have := Int.mul_le_mul_of_nonneg_right (show M ≤ 0 by omega) (show 0 ≤ Q ^ k by omega)
  have := h.1
  omega

set_option maxHeartbeats 4000000 in
set_option maxRecDepth 100000 in
theorem factors_any (n : Int) (w : World) (hn : 1 ≤ n) (hn2 : n ≤ 1000000) :
    Calls Try.prog 79 #[.int .i64 n] w (RetFact n w) := by
  obtain ⟨i0, hi, hz0, hz1, hz2⟩ := info_parts infoPow
  go_enter Try.func79, Try.ntmps79
  go_wp2
  go_loopw [0, 3, 4] (fun a l q wr => ∃ (N P : Int) (L : List (Int × Int)), a = .int .i64 N ∧ q = .int .i64 P ∧ PowOwn wr w.heap.size l L ∧ Below w.heap.size w wr ∧ ((1 < N ∧ FInv n P N L) ∨ (N = 1 ∧ L = factL n ∧ 2 ≤ P ∧ P ≤ 1000003))) (fun a _ q _ => facMeas (intOf a) (intOf q))
  case atStart =>
    by_cases h1 : n = 1
    · exact ⟨n, 2, [], rfl, rfl, World.ownsRow_nil _ _ _ _, Below.refl _ _, .inr ⟨h1, fInv_done (fInv_start hn) (by omega), by omega, by omega⟩⟩
    · exact ⟨n, 2, [], rfl, rfl, World.ownsRow_nil _ _ _ _, Below.refl _ _, .inl ⟨by omega, fInv_start hn⟩⟩
  case round =>
    obtain ⟨N, P, L, rfl, rfl, hown, hbel, hcase⟩ := hrel
    rcases hcase with ⟨hN, hinv⟩ | ⟨rfl, hL, hP1, hP2⟩
    · have HF := Lib.hid hinv
      clear hinv
      obtain ⟨f1, f2, f3, ⟨f4, f5⟩, _⟩ := HF.out
      obtain ⟨p1, p2⟩ : 0 ≤ P * P ∧ P * P ≤ 2000000000000 := by
        have := Int.mul_le_mul (show P ≤ 1000002 by omega) (show P ≤ 1000002 by omega) (by omega) (by omega)
        have := Int.mul_nonneg (show 0 ≤ P by omega) (show 0 ≤ P by omega)
        omega
      by_cases hPP : N < P * P
      · go_wp2
        go_loop [0, 5] (fun b c => ∃ (M : Int) (k : Nat), b = .int .i64 M ∧ c = .int .i64 k ∧ VInv N N M k) (fun b _ => (intOf b).natAbs)
        case atStart => exact ⟨N, 0, rfl, rfl, vInv_start (by omega)⟩
        case round =>
          obtain ⟨M, k, rfl, rfl, hv⟩ := hrel
          have hMp := vInv_pos (Q := N) (by omega) (by omega) hv
          have hk : (k : Int) + M.natAbs ≤ N.natAbs := by have := hv.2.2; omega
          obtain ⟨k1, k3⟩ : (k : Int) ≤ 1000000 ∧ M ≤ 1000000 := by omega
          by_cases hd : M % N = 0
          · obtain ⟨s1, s2, s3⟩ := vInv_step (p := N) (by omega) hv hd
            have hd' : (M % N == 0) = true := by simpa using hd
            obtain ⟨k4, k5⟩ := div_bd (show 0 ≤ M by omega) (show 1 ≤ N by omega)
            have HD := Lib.hid hd; have S1 := Lib.hid s1; have S2 := Lib.hid s2
            clear s3 hd s1 s2
            go_wp2
            go_round
            case rel => exact ⟨M / N, k + 1, rfl, by go_num, S1.out⟩
            case measure => have := S2.out; simp [intOf]; omega
          · have hd' : (M % N == 0) = false := by simpa using hd
            obtain ⟨e1, e2⟩ := vInv_exit (Q := N) (by omega) hv hd
            have HE := Lib.hid e1; have HM := Lib.hid e2
            clear hd e1 e2 hv
            have hk0 : 1 ≤ (k : Int) := by have := HE.out; rw [vp_self (by omega)] at this; omega
            go_wp2_with (at_builtin; refine wpList_append_own _ rfl _ _ 31 rfl w.heap.size 39 i0 (.agg #[.int .i64 0, .int .i64 0]) 2 16 Try.underlying31 hi hz0 hz1 hz2 rfl (by decide) _ _ _ rfl (World.ownsRow.alloc (show wr.ownsRow w.heap.size 39 2 _ L.length (powCells L) from hown) _) ⟨wr.heap.size, 0, none⟩ 1 1 [.int .i64 (N), .int .i64 (k : Int)] rfl rfl (cell_two_new _ _ _ _) (two_cells _ _) (by unfold maxLen; omega) (by omega) (by have := hbel.size; simp; omega) ?_)
            intro v1 w1 hown1 hgrow _
            obtain ⟨hown2, hbel2⟩ := pow_rel hbel hown hown1 hgrow
            have HO := Lib.hid hown2; have HB := Lib.hid hbel2
            clear hown1 hgrow hown2 hbel2 hown hbel
            go_wp2
            have hk1 : (k : Int) = 1 := by have := HE.out; rw [vp_self (by omega)] at this; omega
            have hM1 : M = 1 := by
              have := HM.out
              rw [vp_self (by omega), Int.pow_succ, Int.pow_zero, Int.one_mul, Int.ediv_self (by omega)] at this
              exact this.symm
            go_roundw
            case rel => exact ⟨1, N + 1, L ++ [(N, 1)], by rw [hM1], rfl, by have := HO.out; rw [hk1] at this; exact this, HB.out, .inr ⟨rfl, fInv_last HF.out hN hPP, by omega, by omega⟩⟩
            case measure => simp only [intOf]; exact facMeas_one hN (by omega)
      · by_cases hdv : N % P = 0
        · have HV := Lib.hid hdv; clear hdv
          go_wp2
          go_loop [0, 5] (fun b c => ∃ (M : Int) (k : Nat), b = .int .i64 M ∧ c = .int .i64 k ∧ VInv P N M k) (fun b _ => (intOf b).natAbs)
          case atStart => exact ⟨N, 0, rfl, rfl, vInv_start (by omega)⟩
          case round =>
            obtain ⟨M, k, rfl, rfl, hv⟩ := hrel
            have hMp := vInv_pos (Q := P) (by omega) (by omega) hv
            have hk : (k : Int) + M.natAbs ≤ N.natAbs := by have := hv.2.2; omega
            obtain ⟨k1, k3⟩ : (k : Int) ≤ 1000000 ∧ M ≤ 1000000 := by omega
            by_cases hd : M % P = 0
            · obtain ⟨s1, s2, s3⟩ := vInv_step (p := P) (by omega) hv hd
              have hd' : (M % P == 0) = true := by simpa using hd
              obtain ⟨k4, k5⟩ := div_bd (show 0 ≤ M by omega) (show 1 ≤ P by omega)
              have HD := Lib.hid hd; have S1 := Lib.hid s1; have S2 := Lib.hid s2
              clear s3 hd s1 s2
              go_wp2
              go_round
              case rel => exact ⟨M / P, k + 1, rfl, by go_num, S1.out⟩
              case measure => have := S2.out; simp [intOf]; omega
            · have hd' : (M % P == 0) = false := by simpa using hd
              obtain ⟨e1, e2⟩ := vInv_exit (Q := P) (by omega) hv hd
              have HE := Lib.hid e1; have HM := Lib.hid e2
              clear hd e1 e2 hv
              have hk0 : 1 ≤ (k : Int) := by have := HE.out; have := vp_pos f1 (show N ≠ 0 by omega) HV.out; omega
              go_wp2_with (at_builtin; refine wpList_append_own _ rfl _ _ 31 rfl w.heap.size 39 i0 (.agg #[.int .i64 0, .int .i64 0]) 2 16 Try.underlying31 hi hz0 hz1 hz2 rfl (by decide) _ _ _ rfl (World.ownsRow.alloc (show wr.ownsRow w.heap.size 39 2 _ L.length (powCells L) from hown) _) ⟨wr.heap.size, 0, none⟩ 1 1 [.int .i64 (P), .int .i64 (k : Int)] rfl rfl (cell_two_new _ _ _ _) (two_cells _ _) (by unfold maxLen; omega) (by omega) (by have := hbel.size; simp; omega) ?_)
              intro v1 w1 hown1 hgrow _
              obtain ⟨hown2, hbel2⟩ := pow_rel hbel hown hown1 hgrow
              have HO := Lib.hid hown2; have HB := Lib.hid hbel2
              clear hown1 hgrow hown2 hbel2 hown hbel
              go_wp2
              go_roundw
              case rel =>
                have hy := fInv_yes HF.out (by omega) HV.out
                rw [HM.out, HE.out] at hy
                by_cases hM1 : M = 1
                · exact ⟨M, P + 1, L ++ [(P, (k : Int))], rfl, rfl, HO.out, HB.out, .inr ⟨hM1, fInv_done hy (by omega), by omega, by omega⟩⟩
                · exact ⟨M, P + 1, L ++ [(P, (k : Int))], rfl, rfl, HO.out, HB.out, .inl ⟨by omega, hy⟩⟩
              case measure => simp only [intOf]; exact facMeas_step hN (by omega) (by omega)
        · have HV := Lib.hid hdv; clear hdv
          go_wp2
          go_loop [0, 5] (fun b c => ∃ (M : Int) (k : Nat), b = .int .i64 M ∧ c = .int .i64 k ∧ VInv P N M k) (fun b _ => (intOf b).natAbs)
          case atStart => exact ⟨N, 0, rfl, rfl, vInv_start (by omega)⟩
          case round =>
            obtain ⟨M, k, rfl, rfl, hv⟩ := hrel
            have hMp := vInv_pos (Q := P) (by omega) (by omega) hv
            have hk : (k : Int) + M.natAbs ≤ N.natAbs := by have := hv.2.2; omega
            obtain ⟨k1, k3⟩ : (k : Int) ≤ 1000000 ∧ M ≤ 1000000 := by omega
            by_cases hd : M % P = 0
            · obtain ⟨s1, s2, s3⟩ := vInv_step (p := P) (by omega) hv hd
              have hd' : (M % P == 0) = true := by simpa using hd
              obtain ⟨k4, k5⟩ := div_bd (show 0 ≤ M by omega) (show 1 ≤ P by omega)
              have HD := Lib.hid hd; have S1 := Lib.hid s1; have S2 := Lib.hid s2
              clear s3 hd s1 s2
              go_wp2
              go_round
              case rel => exact ⟨M / P, k + 1, rfl, by go_num, S1.out⟩
              case measure => have := S2.out; simp [intOf]; omega
            · have hd' : (M % P == 0) = false := by simpa using hd
              obtain ⟨e1, e2⟩ := vInv_exit (Q := P) (by omega) hv hd
              have HE := Lib.hid e1; have HM := Lib.hid e2
              clear hd e1 e2 hv
              have hk0 : ((0 : Int) < (k : Int)) = False := by have := HE.out; rw [vp_zero f1 HV.out] at this; simp; omega
              have hk0 := Lib.hid hk0
              have hk1 : (k : Int) ≤ 0 := by have := HE.out; rw [vp_zero f1 HV.out] at this; omega
              have hMN : M = N := by have := HM.out; rw [vp_zero f1 HV.out, Int.pow_zero, Int.ediv_one] at this; exact this.symm
              have HMN := Lib.hid hMN; clear hMN
              have HO := Lib.hid hown; have HB := Lib.hid hbel
              clear hown hbel
              go_wp2
              go_roundw
              case rel => exact ⟨N, P + 1, L, by rw [HMN.out], rfl, HO.out, HB.out, .inl ⟨hN, fInv_no HF.out (by omega) HV.out⟩⟩
              case measure => simp only [intOf]; exact facMeas_step hN (by omega) (by omega)
    · have HL := Lib.hid hL; clear hL
      go_wp2
      go_ret
      exact ⟨_, rfl, by rw [← HL.out]; exact hown, hbel⟩

set_option maxHeartbeats 4000000 in
set_option maxRecDepth 100000 in
theorem l01Factor_any (n : Int) (w : World) (hn : 1 ≤ n) (hn2 : n ≤ 1000000) :
    Calls Try.prog 80 #[.int .i64 n] w (RetFact n w) := by
  obtain ⟨i0, hi, hz0, hz1, hz2⟩ := info_parts infoPow
  go_enter Try.func80, Try.ntmps80
  go_wp2
  go_loopw [0, 3, 4] (fun a l q wr => ∃ (N P : Int) (L : List (Int × Int)), a = .int .i64 N ∧ q = .int .i64 P ∧ PowOwn wr w.heap.size l L ∧ Below w.heap.size w wr ∧ FInv n P N L) (fun _ _ q _ => (2000004 - intOf q).toNat)
  case atStart => exact ⟨n, 2, [], rfl, rfl, World.ownsRow_made w #[] 0 (Nat.le_refl _) (by decide) rfl, below_box _, fInv_start hn⟩
  case round =>
    obtain ⟨N, P, L, rfl, rfl, hown, hbel, hinv⟩ := hrel
    have HF := Lib.hid hinv
    clear hinv
    obtain ⟨f1, f2, f3, ⟨f4, f5⟩, _⟩ := HF.out
    obtain ⟨p1, p2⟩ : 0 ≤ P * P ∧ P * P ≤ 2000000000000 := by
      have := Int.mul_le_mul (show P ≤ 1000002 by omega) (show P ≤ 1000002 by omega) (by omega) (by omega)
      have := Int.mul_nonneg (show 0 ≤ P by omega) (show 0 ≤ P by omega)
      omega
    by_cases hPP : P * P ≤ N
    · have hN := sq_le f1 hPP
      by_cases hdv : N % P = 0
      · have HV := Lib.hid hdv; clear hdv
        go_wp2
        go_loop [0, 5] (fun b c => ∃ (M : Int) (k : Nat), b = .int .i64 M ∧ c = .int .i64 k ∧ VInv P N M k) (fun b _ => (intOf b).natAbs)
        case atStart => exact ⟨N, 0, rfl, rfl, vInv_start (by omega)⟩
        case round =>
          obtain ⟨M, k, rfl, rfl, hv⟩ := hrel
          have hMp := vInv_pos (Q := P) (by omega) (by omega) hv
          have hk : (k : Int) + M.natAbs ≤ N.natAbs := by have := hv.2.2; omega
          obtain ⟨k1, k3⟩ : (k : Int) ≤ 1000000 ∧ M ≤ 1000000 := by omega
          by_cases hd : M % P = 0
          · obtain ⟨s1, s2, s3⟩ := vInv_step (p := P) (by omega) hv hd
            have hd' : (M % P == 0) = true := by simpa using hd
            obtain ⟨k4, k5⟩ := div_bd (show 0 ≤ M by omega) (show 1 ≤ P by omega)
            have HD := Lib.hid hd; have S1 := Lib.hid s1; have S2 := Lib.hid s2
            clear s3 hd s1 s2
            go_wp2
            go_round
            case rel => exact ⟨M / P, k + 1, rfl, by go_num, S1.out⟩
            case measure => have := S2.out; simp [intOf]; omega
          · have hd' : (M % P == 0) = false := by simpa using hd
            obtain ⟨e1, e2⟩ := vInv_exit (Q := P) (by omega) hv hd
            have HE := Lib.hid e1; have HM := Lib.hid e2
            clear hd e1 e2 hv
            have hk0 : 1 ≤ (k : Int) := by have := HE.out; have := vp_pos f1 (show N ≠ 0 by omega) HV.out; omega
            go_wp2_with (at_builtin; refine wpList_append_own _ rfl _ _ 31 rfl w.heap.size 39 i0 (.agg #[.int .i64 0, .int .i64 0]) 2 16 Try.underlying31 hi hz0 hz1 hz2 rfl (by decide) _ _ _ rfl (World.ownsRow.alloc (show wr.ownsRow w.heap.size 39 2 _ L.length (powCells L) from hown) _) ⟨wr.heap.size, 0, none⟩ 1 1 [.int .i64 (P), .int .i64 (k : Int)] rfl rfl (cell_two_new _ _ _ _) (two_cells _ _) (by unfold maxLen; omega) (by omega) (by have := hbel.size; simp; omega) ?_)
            intro v1 w1 hown1 hgrow _
            obtain ⟨hown2, hbel2⟩ := pow_rel hbel hown hown1 hgrow
            have HO := Lib.hid hown2; have HB := Lib.hid hbel2
            clear hown1 hgrow hown2 hbel2 hown hbel
            go_wp2
            go_roundw
            case rel =>
              have hy := fInv_yes HF.out (by omega) HV.out
              rw [HM.out, HE.out] at hy
              exact ⟨M, P + 1, L ++ [(P, (k : Int))], rfl, rfl, HO.out, HB.out, hy⟩
            case measure => simp [intOf]; omega
      · have HV := Lib.hid hdv; clear hdv
        go_wp2
        go_loop [0, 5] (fun b c => ∃ (M : Int) (k : Nat), b = .int .i64 M ∧ c = .int .i64 k ∧ VInv P N M k) (fun b _ => (intOf b).natAbs)
        case atStart => exact ⟨N, 0, rfl, rfl, vInv_start (by omega)⟩
        case round =>
          obtain ⟨M, k, rfl, rfl, hv⟩ := hrel
          have hMp := vInv_pos (Q := P) (by omega) (by omega) hv
          have hk : (k : Int) + M.natAbs ≤ N.natAbs := by have := hv.2.2; omega
          obtain ⟨k1, k3⟩ : (k : Int) ≤ 1000000 ∧ M ≤ 1000000 := by omega
          by_cases hd : M % P = 0
          · obtain ⟨s1, s2, s3⟩ := vInv_step (p := P) (by omega) hv hd
            have hd' : (M % P == 0) = true := by simpa using hd
            obtain ⟨k4, k5⟩ := div_bd (show 0 ≤ M by omega) (show 1 ≤ P by omega)
            have HD := Lib.hid hd; have S1 := Lib.hid s1; have S2 := Lib.hid s2
            clear s3 hd s1 s2
            go_wp2
            go_round
            case rel => exact ⟨M / P, k + 1, rfl, by go_num, S1.out⟩
            case measure => have := S2.out; simp [intOf]; omega
          · have hd' : (M % P == 0) = false := by simpa using hd
            obtain ⟨e1, e2⟩ := vInv_exit (Q := P) (by omega) hv hd
            have HE := Lib.hid e1; have HM := Lib.hid e2
            clear hd e1 e2 hv
            have hk1 : (k : Int) ≤ 0 := by have := HE.out; rw [vp_zero f1 HV.out] at this; omega
            have hMN : M = N := by have := HM.out; rw [vp_zero f1 HV.out, Int.pow_zero, Int.ediv_one] at this; exact this.symm
            have HMN := Lib.hid hMN; clear hMN
            have HO := Lib.hid hown; have HB := Lib.hid hbel
            clear hown hbel
            go_wp2
            go_roundw
            case rel => exact ⟨N, P + 1, L, by rw [HMN.out], rfl, HO.out, HB.out, fInv_no HF.out (by omega) HV.out⟩
            case measure => simp [intOf]; omega
    · by_cases hN : 1 < N
      · go_wp2_with (at_builtin; refine wpList_append_own _ rfl _ _ 31 rfl w.heap.size 39 i0 (.agg #[.int .i64 0, .int .i64 0]) 2 16 Try.underlying31 hi hz0 hz1 hz2 rfl (by decide) _ _ _ rfl (World.ownsRow.alloc (show wr.ownsRow w.heap.size 39 2 _ L.length (powCells L) from hown) _) ⟨wr.heap.size, 0, none⟩ 1 1 [.int .i64 (N), .int .i64 1] rfl rfl (cell_two_new _ _ _ _) (two_cells _ _) (by unfold maxLen; omega) (by omega) (by have := hbel.size; simp; omega) ?_)
        intro v1 w1 hown1 hgrow _
        obtain ⟨hown2, hbel2⟩ := pow_rel hbel hown hown1 hgrow
        have HO := Lib.hid hown2; have HB := Lib.hid hbel2
        clear hown1 hgrow hown2 hbel2 hown hbel
        go_wp2
        go_ret
        exact ⟨_, rfl, by rw [← fInv_last HF.out hN (by omega)]; exact HO.out, HB.out⟩
      · go_wp2
        go_ret
        exact ⟨_, rfl, by rw [← fInv_done HF.out (by omega)]; exact hown, hbel⟩

end Go.Proofs.Ytlndfjplhfgicaa
