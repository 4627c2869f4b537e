/- Contracts: Legendre and Jacobi symbols. -/
import Derived.Test.YtjampkjgapkklaaFa
import Derived.Test.YtjampkjgapkklaaS
namespace Go.Proofs.Ytjampkjgapkklaa
open Go.RowKit
set_option linter.unusedVariables false
set_option linter.unusedSimpArgs false

theorem legendre_any (a p : Int) (w : World) (ha : -9223372036854775808 ≤ a ∧ a ≤ 9223372036854775807) (hp : 3 ≤ p) (hp2 : p ≤ 1000000) :
    Calls Try.prog 65 #[.int .i64 a, .int .i64 p] w fun e w' => e = .returned (.int .i64 (leg a p)) ∧ w = w' := by
  by_cases h0 : a ^ ((p - 1) / 2).toNat % p = 0
  · have hl := Lib.hid (show leg a p = 0 by unfold leg; rw [if_pos h0])
    have hb : (a ^ ((p - 1) / 2).toNat % p == 0) = true := by simpa using h0
    clear h0
    go_enter Try.func65, Try.ntmps65
    go_wp2_with (go_at_call 99; ((with_reducible refine (powerMod_any _ _ _ _ ha (by omega) (by omega) (by omega) (by omega)).mono ?_); rintro e w' ⟨rfl, rfl⟩))
    go_ret
    exact ⟨ret_int hl.out.symm, rfl⟩
  · have hb : (a ^ ((p - 1) / 2).toNat % p == 0) = false := by simpa using h0
    by_cases h1 : a ^ ((p - 1) / 2).toNat % p = 1
    · have hl := Lib.hid (show leg a p = 1 by unfold leg; rw [if_neg h0, if_pos h1])
      have hb1 : (a ^ ((p - 1) / 2).toNat % p == 1) = true := by simpa using h1
      clear h0 h1
      go_enter Try.func65, Try.ntmps65
      go_wp2_with (go_at_call 99; ((with_reducible refine (powerMod_any _ _ _ _ ha (by omega) (by omega) (by omega) (by omega)).mono ?_); rintro e w' ⟨rfl, rfl⟩))
      go_ret
      exact ⟨ret_int hl.out.symm, rfl⟩
    · have hl := Lib.hid (show leg a p = -1 by unfold leg; rw [if_neg h0, if_neg h1])
      have hb1 : (a ^ ((p - 1) / 2).toNat % p == 1) = false := by simpa using h1
      clear h0 h1
      go_enter Try.func65, Try.ntmps65
      go_wp2_with (go_at_call 99; ((with_reducible refine (powerMod_any _ _ _ _ ha (by omega) (by omega) (by omega) (by omega)).mono ?_); rintro e w' ⟨rfl, rfl⟩))
      go_ret
      exact ⟨ret_int hl.out.symm, rfl⟩

theorem isFactored_any (n : Int) (w : World) :
    Calls Try.prog 63 #[.int .i64 n] w fun e w' => e = .returned (.bool (inB n 1 1000000)) ∧ w = w' := by
  go_enter Try.func63, Try.ntmps63
  go_wp2_with (go_at_call 52; ((with_reducible refine (within_any _ _ _ _).mono ?_); rintro e w' ⟨rfl, rfl⟩))
  go_ret
  exact ⟨rfl, rfl⟩

theorem PowOwn.step {w w' : World} {base : Nat} {v : Value} {L : List (Int × Int)} (h : PowOwn w base v L) (hb : Below w.heap.size w w') : PowOwn w' base v L :=
  World.ownsRow.kept h (below_grown hb) (by cases v.ownBlock with | none => exact .inl rfl | some k => exact .inr (by simp))
theorem jac_step (a : Int) (L : List (Int × Int)) (i j : Nat) : -1 ≤ jacI a L i * leg a (pw L i).1 ^ j ∧ jacI a L i * leg a (pw L i).1 ^ j ≤ 1 := by
  have := tri_mul (jacI_tri a L i) (tri_pow (leg_tri a (pw L i).1) j)
  omega
theorem tri_bd {x y : Int} (hx : -1 ≤ x ∧ x ≤ 1) (hy : -1 ≤ y ∧ y ≤ 1) : -1 ≤ x * y ∧ x * y ≤ 1 := by
  have := tri_mul (x := x) (y := y) (by omega) (by omega)
  omega
theorem leg_bd (a p : Int) : -1 ≤ leg a p ∧ leg a p ≤ 1 := by have := leg_tri a p; omega

set_option maxHeartbeats 2000000 in
theorem JacobiSymbol_ok (a n : Int) (w : World) (ha : inB a (-1000000000000) 1000000000000 = true) (hn : inB n 1 1000000 = true) (ho : n % 2 ≠ 0) :
    Calls Try.prog 20 #[.int .i64 a, .int .i64 n] w fun e w' => e = .returned (.tuple #[.int .i64 (jacN a n), .int .i64 0]) ∧ Below w.heap.size w w' := by
  obtain ⟨a1, a2⟩ := inB_iff.1 ha
  obtain ⟨n1, n2⟩ := inB_iff.1 hn
  have HA := Lib.hid ha
  have HN := Lib.hid hn
  have ho3 : (n % 2 == 0) = false := by simpa using ho
  have HO := Lib.hid ho
  clear ha hn ho
  go_enter Try.func20, Try.ntmps20
  go_wp2_with (first | (go_at_call 62; ((with_reducible refine (calls_bool (isValue_any _ _) HA.out).mono ?_); rintro e w' ⟨rfl, rfl⟩)) | (go_at_call 63; ((with_reducible refine (calls_bool (isFactored_any _ _) HN.out).mono ?_); rintro e w' ⟨rfl, rfl⟩)) | (go_at_call 64; with_reducible refine (factors_any n _ n1 n2).mono ?_))
  rintro _ w1 ⟨v1, rfl, hown, hbel⟩
  obtain ⟨p1, p2, rfl, p3, p4, hp⟩ := hown.parts
  have HV := Lib.hid hown
  have HB := Lib.hid hbel
  have HP := Lib.hid hp
  clear hown hbel hp
  have hmax : (factL n).length ≤ 9223372036854775807 := by unfold maxLen at p4; omega
  go_wp2
  go_loopw [6, 25] (fun s c wr => ∃ i : Nat, c = .int .i64 (i : Int) ∧ i ≤ (factL n).length ∧ s = .int .i64 (jacI a (factL n) i) ∧ Below w1.heap.size w1 wr) (fun _ c _ => (factL n).length - (intOf c).toNat)
  case atStart => exact ⟨0, rfl, by omega, rfl, Below.refl _ _⟩
  case round =>
    obtain ⟨i, rfl, hi, rfl, hbel⟩ := hrel
    have HW := Lib.hid hbel
    clear hbel
    by_cases hlt : i < (factL n).length
    · obtain ⟨g, rfl, hg, hgw, hc⟩ := HP.out (by omega)
      obtain ⟨c1, c2⟩ := hc i hlt
      rw [← HW.out.cell (p := ⟨g, i * 2, none⟩) hgw] at c1
      rw [← HW.out.cell (p := ⟨g, i * 2 + 1, none⟩) hgw] at c2
      obtain ⟨o1, o2, o3, o4, o5, o6⟩ := odd_part n1 HO.out hlt
      clear hc
      go_wp2
      go_loop [6, 31] (fun s c => ∃ j : Nat, c = .int .i64 (j : Int) ∧ (j : Int) ≤ (pw (factL n) i).2 ∧ s = .int .i64 (jacI a (factL n) i * leg a (pw (factL n) i).1 ^ j)) (fun _ c => ((pw (factL n) i).2 - intOf c).toNat)
      case atStart => exact ⟨0, rfl, by omega, vint (by simp)⟩
      case round =>
        obtain ⟨j, rfl, hj, rfl⟩ := hrel
        by_cases hlt2 : (j : Int) < (pw (factL n) i).2
        · obtain ⟨b1, b2⟩ := jac_step a (factL n) i j
          obtain ⟨b3, b4⟩ := jac_step a (factL n) i (j + 1)
          rw [Int.pow_succ, ← Int.mul_assoc] at b3 b4
          obtain ⟨b5, b6⟩ := leg_bd a (pw (factL n) i).1
          go_wp2_with (go_at_call 65; ((with_reducible refine (legendre_any _ _ _ ⟨by omega, by omega⟩ o3 (by omega)).mono ?_); rintro e w' ⟨rfl, rfl⟩))
          go_round
          case rel => exact ⟨j + 1, by go_num, by omega, vint (by rw [Int.pow_succ, Int.mul_assoc])⟩
          case measure => simp [intOf]; omega
        · have hx : (pw (factL n) i).2.toNat = j := by omega
          have HX := Lib.hid hx
          clear hx
          go_wp2
          go_roundw
          case rel => exact ⟨i + 1, by go_num, by omega, vint (by rw [jacI, HX.out]), HW.out.trans (((by repeat (first | assumption | exact Below.refl _ _ | exact below_box _ | refine Below.drew ?_ | refine Below.setCell ?_ (by first | (simp; done) | (simp; omega)) _ | (refine below_step (by assumption) (by first | omega | (simp; done) | (simp; omega)) ?_) | (refine Below.alloc ?_ (by first | omega | (simp; done) | (simp; omega)) _))) : Below wr.heap.size wr _).mono HW.out.size)⟩
          case measure => simp [intOf]; omega
    · have hx : (factL n).length = i := by omega
      have HX := Lib.hid hx
      clear hx
      go_wp2
      go_ret2
      exact ⟨by rw [jacN, HX.out]; rfl, HB.out.trans (HW.out.mono HB.out.size)⟩

set_option maxHeartbeats 2000000 in
theorem sJacobiSymbol_ok (a n : Int) (w : World) (ha : inB a (-1000000000000) 1000000000000 = true) (hn : inB n 1 1000000 = true) (ho : n % 2 ≠ 0) :
    Calls Try.prog 19 #[.int .i64 a, .int .i64 n] w fun e w' => e = .returned (.tuple #[.int .i64 (jacN a n), .int .i64 0]) ∧ Below w.heap.size w w' := by
  obtain ⟨a1, a2⟩ := inB_iff.1 ha
  obtain ⟨n1, n2⟩ := inB_iff.1 hn
  have HA := Lib.hid ha
  have HN := Lib.hid hn
  have ho3 : (n % 2 == 0) = false := by simpa using ho
  have HO := Lib.hid ho
  clear ha hn ho
  go_enter Try.func19, Try.ntmps19
  go_wp2_with (first | (go_at_call 59; ((with_reducible refine (calls_bool (l01Is_any _ _) HA.out).mono ?_); rintro e w' ⟨rfl, rfl⟩)) | (go_at_call 50; ((with_reducible refine (calls_bool (l01In_any _ _ _ _) HN.out).mono ?_); rintro e w' ⟨rfl, rfl⟩)) | (go_at_call 60; with_reducible refine (l01Factor_any n _ n1 n2).mono ?_))
  rintro _ w1 ⟨v1, rfl, hown, hbel⟩
  obtain ⟨p1, p2, rfl, p3, p4, hp⟩ := hown.parts
  have HV := Lib.hid hown
  have HB := Lib.hid hbel
  have HP := Lib.hid hp
  clear hown hbel hp
  have hmax : (factL n).length ≤ 9223372036854775807 := by unfold maxLen at p4; omega
  go_wp2
  go_loop [6, 8] (fun s c => ∃ i : Nat, c = .int .i64 (i : Int) ∧ i ≤ (factL n).length ∧ s = .int .i64 (jacI a (factL n) i)) (fun _ c => (factL n).length - (intOf c).toNat)
  case atStart => exact ⟨0, rfl, by omega, rfl⟩
  case round =>
    obtain ⟨i, rfl, hi, rfl⟩ := hrel
    by_cases hlt : i < (factL n).length
    · obtain ⟨g, rfl, hg, hgw, hc⟩ := HP.out (by omega)
      obtain ⟨c1, c2⟩ := hc i hlt
      obtain ⟨o1, o2, o3, o4, o5, o6⟩ := odd_part n1 HO.out hlt
      clear hc
      rcases leg_spec (a := a) o1 o2 with ⟨q1, q2⟩ | ⟨q1, q2⟩
      · have q3 : (a ^ (((pw (factL n) i).1 - 1) / 2).toNat % (pw (factL n) i).1 == (pw (factL n) i).1 - 1) = true := by simpa using q1
        have Q1 := Lib.hid q1
        have Q2 := Lib.hid q2
        clear q1 q2
        go_wp2_with (go_at_call 61; ((with_reducible refine (l02Power_any _ _ _ _ ⟨by omega, by omega⟩ (by omega) (by omega) (by omega) (by omega)).mono ?_); rintro e w' ⟨rfl, rfl⟩))
        go_loop [6, 11] (fun s c => ∃ j : Nat, c = .int .i64 (j : Int) ∧ (j : Int) ≤ (pw (factL n) i).2 ∧ s = .int .i64 (jacI a (factL n) i * leg a (pw (factL n) i).1 ^ j)) (fun _ c => ((pw (factL n) i).2 - intOf c).toNat)
        case atStart => exact ⟨0, rfl, by omega, vint (by simp)⟩
        case round =>
          obtain ⟨j, rfl, hj, rfl⟩ := hrel
          by_cases hlt2 : (j : Int) < (pw (factL n) i).2
          · obtain ⟨b1, b2⟩ := jac_step a (factL n) i j
            obtain ⟨b3, b4⟩ := jac_step a (factL n) i (j + 1)
            rw [Int.pow_succ, ← Int.mul_assoc] at b3 b4
            obtain ⟨b5, b6⟩ := leg_bd a (pw (factL n) i).1
            have b7 := Lib.hid Q2.out
            rw [Q2.out] at b3 b4
            go_wp2
            go_round
            case rel => exact ⟨j + 1, by go_num, by omega, vint (by rw [Int.pow_succ, ← Int.mul_assoc, Q2.out]; omega)⟩
            case measure => simp [intOf]; omega
          · have hx : (pw (factL n) i).2.toNat = j := by omega
            have HX := Lib.hid hx
            clear hx
            go_wp2
            go_round
            case rel => exact ⟨i + 1, by go_num, by omega, vint (by rw [jacI, HX.out])⟩
            case measure => simp [intOf]; omega
      · have q3 : (leg a (pw (factL n) i).1 == (pw (factL n) i).1 - 1) = false := by rw [q2]; simpa using q1
        have Q2 := Lib.hid q2.symm
        obtain ⟨b5, b6⟩ := leg_bd a (pw (factL n) i).1
        clear q1 q2
        go_wp2_with (go_at_call 61; ((with_reducible refine (calls_int (l02Power_any _ _ _ _ ⟨by omega, by omega⟩ (by omega) (by omega) (by omega) (by omega)) Q2.out).mono ?_); rintro e w' ⟨rfl, rfl⟩))
        go_loop [6, 11] (fun s c => ∃ j : Nat, c = .int .i64 (j : Int) ∧ (j : Int) ≤ (pw (factL n) i).2 ∧ s = .int .i64 (jacI a (factL n) i * leg a (pw (factL n) i).1 ^ j)) (fun _ c => ((pw (factL n) i).2 - intOf c).toNat)
        case atStart => exact ⟨0, rfl, by omega, vint (by simp)⟩
        case round =>
          obtain ⟨j, rfl, hj, rfl⟩ := hrel
          by_cases hlt2 : (j : Int) < (pw (factL n) i).2
          · obtain ⟨b1, b2⟩ := jac_step a (factL n) i j
            obtain ⟨b3, b4⟩ := jac_step a (factL n) i (j + 1)
            rw [Int.pow_succ, ← Int.mul_assoc] at b3 b4
            obtain ⟨b5, b6⟩ := leg_bd a (pw (factL n) i).1
            go_wp2
            go_round
            case rel => exact ⟨j + 1, by go_num, by omega, vint (by rw [Int.pow_succ, ← Int.mul_assoc])⟩
            case measure => simp [intOf]; omega
          · have hx : (pw (factL n) i).2.toNat = j := by omega
            have HX := Lib.hid hx
            clear hx
            go_wp2
            go_round
            case rel => exact ⟨i + 1, by go_num, by omega, vint (by rw [jacI, HX.out])⟩
            case measure => simp [intOf]; omega
    · have hx : (factL n).length = i := by omega
      have HX := Lib.hid hx
      clear hx
      go_wp2
      go_ret2
      exact ⟨by rw [jacN, HX.out]; rfl, HB.out⟩

end Go.Proofs.Ytjampkjgapkklaa
