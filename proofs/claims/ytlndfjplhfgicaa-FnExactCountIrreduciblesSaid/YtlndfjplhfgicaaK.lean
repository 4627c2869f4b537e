/- Contracts: counts. -/
import Derived.Test.YtlndfjplhfgicaaG
namespace Go.Proofs.Ytlndfjplhfgicaa
open Go.RowKit
set_option linter.unusedVariables false
set_option linter.unusedSimpArgs false

/-- The code of a prime and a number in a range. -/
def cntCode (p n lo hi : Int) : Int := if smallB p then (if inB n lo hi then 0 else 2) else 1
theorem counting_any (p n lo hi : Int) (w : World) :
    Calls Try.prog 95 #[.int .i64 p, .int .i64 n, .int .i64 lo, .int .i64 hi] w fun e w' => e = .returned (.int .i64 (cntCode p n lo hi)) ∧ w = w' := by
  rcases Bool.eq_false_or_eq_true (smallB p) with hs | hs
  · have HS := Lib.hid hs; clear hs
    rcases Bool.eq_false_or_eq_true (inB n lo hi) with hi | hi
    all_goals
      have HI := Lib.hid hi; clear hi
      go_enter Try.func95, Try.ntmps95
      go_wp2_with (first | (go_at_call 85; ((with_reducible refine (calls_bool (isSmallPrime_any _ _) HS.out).mono ?_); rintro e w' ⟨rfl, rfl⟩)) | (go_at_call 91; ((with_reducible refine (calls_bool (within_any _ _ _ _) HI.out).mono ?_); rintro e w' ⟨rfl, rfl⟩)))
      go_ret
      exact ⟨ret_int (by simp [cntCode, HS.out, HI.out]), rfl⟩
  · have HS := Lib.hid hs; clear hs
    go_enter Try.func95, Try.ntmps95
    go_wp2_with (go_at_call 85; ((with_reducible refine (calls_bool (isSmallPrime_any _ _) HS.out).mono ?_); rintro e w' ⟨rfl, rfl⟩))
    go_ret
    exact ⟨ret_int (by simp [cntCode, HS.out]), rfl⟩
theorem l10Code_any (p n lo hi : Int) (w : World) :
    Calls Try.prog 92 #[.int .i64 p, .int .i64 n, .int .i64 lo, .int .i64 hi] w fun e w' => e = .returned (.int .i64 (cntCode p n lo hi)) ∧ w = w' := by
  rcases Bool.eq_false_or_eq_true (smallB p) with hs | hs
  · have HS := Lib.hid hs; clear hs
    rcases Bool.eq_false_or_eq_true (inB n lo hi) with hi | hi
    all_goals
      have HI := Lib.hid hi; clear hi
      go_enter Try.func92, Try.ntmps92
      go_wp2_with (first | (go_at_call 88; ((with_reducible refine (calls_bool (l01Small_any _ _) HS.out).mono ?_); rintro e w' ⟨rfl, rfl⟩)) | (go_at_call 74; ((with_reducible refine (calls_bool (l01In_any _ _ _ _) HI.out).mono ?_); rintro e w' ⟨rfl, rfl⟩)))
      go_ret
      exact ⟨ret_int (by simp [cntCode, HS.out, HI.out]), rfl⟩
  · have HS := Lib.hid hs; clear hs
    go_enter Try.func92, Try.ntmps92
    go_wp2_with (go_at_call 88; ((with_reducible refine (calls_bool (l01Small_any _ _) HS.out).mono ?_); rintro e w' ⟨rfl, rfl⟩))
    go_ret
    exact ⟨ret_int (by simp [cntCode, HS.out]), rfl⟩
def tmV (x : Int) : Int := if x > 1000000000 then 0 else x
def tmC (x : Int) : Int := if x > 1000000000 then 3 else 0
theorem orTooMany_any (x : Int) (w : World) :
    Calls Try.prog 96 #[.int .i64 x] w fun e w' => e = .returned (.tuple #[.int .i64 (tmV x), .int .i64 (tmC x)]) ∧ w = w' := by
  by_cases h : 1000000000 < x
  all_goals
    go_enter Try.func96, Try.ntmps96
    go_wp2
    go_ret2
    exact ⟨ret2 (by simp [tmV]; omega) (by simp [tmC]; omega), rfl⟩
theorem l10Result_any (x : Int) (w : World) :
    Calls Try.prog 93 #[.int .i64 x] w fun e w' => e = .returned (.tuple #[.int .i64 (tmV x), .int .i64 (tmC x)]) ∧ w = w' := by
  by_cases h : 1000000000 < x
  all_goals
    go_enter Try.func93, Try.ntmps93
    go_wp2
    go_ret2
    exact ⟨ret2 (by simp [tmV]; omega) (by simp [tmC]; omega), rfl⟩
theorem pow8 {p n : Int} (hp : 2 ≤ p ∧ p ≤ 97) (hn : 0 ≤ n ∧ n ≤ 8) : 1 ≤ p ^ n.toNat ∧ p ^ n.toNat ≤ 7837433594376961 := by
  refine ⟨pow_pos' (by omega) _, ?_⟩
  have h1 := pow_mono (show 1 ≤ p by omega) (show n.toNat ≤ 8 by omega)
  have h2 : ∀ k : Nat, p ^ k ≤ 97 ^ k := by
    intro k
    induction k with
    | zero => simp
    | succ k ih =>
      rw [Int.pow_succ, Int.pow_succ]
      exact Int.mul_le_mul ih hp.2 (by omega) (by have := pow_pos' (show (1:Int) ≤ 97 by decide) k; omega)
  have h3 := h2 8
  have h4 : (97 : Int) ^ 8 = 7837433594376961 := by decide
  omega
set_option maxHeartbeats 400000 in
theorem l10Power_any (p n : Int) (w : World) (hp : 2 ≤ p ∧ p ≤ 97) (hn : 0 ≤ n ∧ n ≤ 8) :
    Calls Try.prog 147 #[.int .i64 p, .int .i64 n] w fun e w' => e = .returned (.int .i64 (p ^ n.toNat)) ∧ w = w' := by
  go_enter Try.func147, Try.ntmps147
  go_wp2
  go_loop [1, 5] (fun i m => ∃ k : Nat, i = .int .i64 (n - k) ∧ k ≤ n.toNat ∧ m = .int .i64 (p ^ k)) (fun i _ => (intOf i).toNat)
  case atStart => exact ⟨0, by simp, by omega, vint (by simp)⟩
  case round =>
    obtain ⟨k, rfl, hk, rfl⟩ := hrel
    have hb := (pow8 (n := (k : Int)) hp (by omega)).1
    rw [Int.toNat_natCast] at hb
    by_cases hlt : (k : Int) < n
    · obtain ⟨b1, b2⟩ := pow8 (n := (k : Int) + 1) hp (by omega)
      rw [show ((k : Int) + 1).toNat = k + 1 by omega, Int.pow_succ] at b1 b2
      go_wp2
      go_round
      case rel => exact ⟨k + 1, vint (by omega), by omega, vint (by rw [Int.pow_succ])⟩
      case measure => simp [intOf]; omega
    · go_wp2
      have hx : n.toNat = k := by omega
      go_ret
      exact ⟨ret_int (by rw [hx]), rfl⟩

end Go.Proofs.Ytlndfjplhfgicaa
