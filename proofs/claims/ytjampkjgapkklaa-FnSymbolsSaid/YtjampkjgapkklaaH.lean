/- Contracts: signs, squares by a prime, parts of a number, Hilbert symbols. -/
import Derived.Test.YtjampkjgapkklaaO
namespace Go.Proofs.Ytjampkjgapkklaa
open Go.RowKit
set_option linter.unusedVariables false
set_option linter.unusedSimpArgs false

def signV (n : Int) : Int := if n % 2 = 0 then 1 else -1
theorem signOf_any (n : Int) (w : World) :
    Calls Try.prog 105 #[.int .i64 n] w fun e w' => e = .returned (.int .i64 (signV n)) ∧ w = w' := by
  by_cases h : n % 2 = 0
  · have h' : (n.tmod 2 != 0) = false := by simpa using (tmod_zero n 2).2 h
    have hq := Lib.hid (show signV n = 1 by unfold signV; rw [if_pos h])
    clear h
    go_enter Try.func105, Try.ntmps105
    go_wp2
    go_ret
    exact ⟨ret_int hq.out.symm, rfl⟩
  · have h' : (n.tmod 2 != 0) = true := by simpa using fun e => h ((tmod_zero n 2).1 e)
    have hq := Lib.hid (show signV n = -1 by unfold signV; rw [if_neg h])
    clear h
    go_enter Try.func105, Try.ntmps105
    go_wp2
    go_ret
    exact ⟨ret_int hq.out.symm, rfl⟩

/-- 0, 1 or -1 as p divides a, a is a square by p, or none. -/
def legV (p a : Int) : Int := if a % p = 0 then 0 else if (List.range p.toNat).any (fun x => decide (1 ≤ x) && decide ((x : Int) * x % p = a % p)) then 1 else -1
theorem legV_zero {p a : Int} (h : a % p = 0) : legV p a = 0 := by unfold legV; rw [if_pos h]
theorem legV_one {p a x : Int} (h : a % p ≠ 0) (h1 : 1 ≤ x) (h2 : x < p) (h3 : x * x % p = a % p) : legV p a = 1 := by
  unfold legV
  rw [if_neg h, if_pos]
  refine List.any_eq_true.2 ⟨x.toNat, List.mem_range.2 (by omega), ?_⟩
  rw [Int.toNat_of_nonneg (by omega)]
  simp [h3]; omega
theorem legV_neg {p a : Int} (h : a % p ≠ 0) (h3 : ∀ x : Int, 1 ≤ x → x < p → x * x % p ≠ a % p) : legV p a = -1 := by
  unfold legV
  rw [if_neg h, if_neg]
  intro hx
  obtain ⟨x, hx1, hx2⟩ := List.any_eq_true.1 hx
  rw [List.mem_range] at hx1
  simp only [Bool.and_eq_true, decide_eq_true_eq] at hx2
  exact h3 x (by omega) (by omega) hx2.2
theorem legV_mod (p a : Int) : legV p (a % p) = legV p a := by unfold legV; rw [Int.emod_emod]
theorem sub_tmod (a b p : Int) : (a - b).tmod p = 0 ↔ a % p = b % p := by
  rw [tmod_zero]; exact Int.emod_eq_emod_iff_emod_sub_eq_zero.symm

set_option maxHeartbeats 400000 in
theorem squareSign_any (p a : Int) (w : World) (hp : 2 ≤ p ∧ p ≤ 97) (ha : -100000000000000000 ≤ a ∧ a ≤ 100000000000000000) :
    Calls Try.prog 104 #[.int .i64 p, .int .i64 a] w fun e w' => e = .returned (.int .i64 (legV p a)) ∧ w = w' := by
  by_cases h : a % p = 0
  · have h' : (a.tmod p == 0) = true := by simpa using (tmod_zero a p).2 h
    have hq := Lib.hid (legV_zero h)
    clear h
    go_enter Try.func104, Try.ntmps104
    go_wp2
    go_ret
    exact ⟨ret_int hq.out.symm, rfl⟩
  · have h' : (a.tmod p == 0) = false := by simpa using fun e => h ((tmod_zero a p).1 e)
    have HN := Lib.hid h
    clear h
    go_enter Try.func104, Try.ntmps104
    go_wp2
    go_loop [5] (fun i => ∃ n : Int, i = .int .i64 n ∧ 1 ≤ n ∧ n ≤ p ∧ ∀ x : Int, 1 ≤ x → x < n → x * x % p ≠ a % p) (fun i => (p - intOf i).toNat)
    case atStart => exact ⟨1, rfl, by omega, by omega, fun x h1 h2 => by omega⟩
    case round =>
      obtain ⟨n, rfl, hn1, hn2, hno⟩ := hrel
      have HO := Lib.hid hno
      clear hno
      obtain ⟨b1, b2⟩ : 0 ≤ n * n ∧ n * n ≤ 9409 := by
        have := Int.mul_le_mul (show n ≤ 97 by omega) (show n ≤ 97 by omega) (by omega) (by omega)
        have := Int.mul_nonneg (show 0 ≤ n by omega) (show 0 ≤ n by omega)
        omega
      by_cases hs : n * n % p = a % p
      · have hs' : ((n * n - a).tmod p == 0) = true := by simpa using (sub_tmod _ _ _).2 hs
        have HS := Lib.hid hs; clear hs
        go_wp2
        · go_ret
          exact ⟨ret_int (legV_one HN.out hn1 ‹_› HS.out).symm, rfl⟩
        · go_ret
          exact ⟨ret_int (legV_neg HN.out (fun x h1 h2 => HO.out x h1 (by omega))).symm, rfl⟩
      · have hs' : ((n * n - a).tmod p == 0) = false := by simpa using fun e => hs ((sub_tmod _ _ _).1 e)
        have HS := Lib.hid hs; clear hs
        go_wp2
        · go_round
          case rel => exact ⟨n + 1, rfl, by omega, by omega, fun x h1 h2 => by
            by_cases e : x = n
            · rw [e]; exact HS.out
            · exact HO.out x h1 (by omega)⟩
          case measure => simp [intOf]; omega
        · go_ret
          exact ⟨ret_int (legV_neg HN.out (fun x h1 h2 => HO.out x h1 (by omega))).symm, rfl⟩

set_option maxHeartbeats 400000 in
theorem l02Legendre_any (a p : Int) (w : World) (hp : 2 ≤ p ∧ p ≤ 97) :
    Calls Try.prog 101 #[.int .i64 a, .int .i64 p] w fun e w' => e = .returned (.int .i64 (legV p a)) ∧ w = w' := by
  have hb := emod_bd a p (by omega)
  by_cases h : a % p = 0
  · have h' : (a % p == 0) = true := by simpa using h
    have hq := Lib.hid (legV_zero h)
    clear h
    go_enter Try.func101, Try.ntmps101
    go_wp2_with (go_at_call 69; ((with_reducible refine (l01Mod_any _ _ _ (by omega) (by omega)).mono ?_); rintro e w' ⟨rfl, rfl⟩))
    go_ret
    exact ⟨ret_int hq.out.symm, rfl⟩
  · have h' : (a % p == 0) = false := by simpa using h
    have HN := Lib.hid h
    clear h
    go_enter Try.func101, Try.ntmps101
    go_wp2_with (go_at_call 69; ((with_reducible refine (l01Mod_any _ _ _ (by omega) (by omega)).mono ?_); rintro e w' ⟨rfl, rfl⟩))
    go_loop [5] (fun i => ∃ n : Int, i = .int .i64 n ∧ 1 ≤ n ∧ n ≤ p ∧ ∀ x : Int, 1 ≤ x → x < n → x * x % p ≠ a % p) (fun i => (p - intOf i).toNat)
    case atStart => exact ⟨1, rfl, by omega, by omega, fun x h1 h2 => by omega⟩
    case round =>
      obtain ⟨n, rfl, hn1, hn2, hno⟩ := hrel
      have HO := Lib.hid hno
      clear hno
      obtain ⟨b1, b2⟩ : 0 ≤ n * n ∧ n * n ≤ 9409 := by
        have := Int.mul_le_mul (show n ≤ 97 by omega) (show n ≤ 97 by omega) (by omega) (by omega)
        have := Int.mul_nonneg (show 0 ≤ n by omega) (show 0 ≤ n by omega)
        omega
      by_cases hs : n * n % p = a % p
      · have hs' : (n * n % p == a % p) = true := by simpa using hs
        have HS := Lib.hid hs; clear hs
        go_wp2
        · go_ret
          exact ⟨ret_int (legV_one HN.out hn1 ‹_› HS.out).symm, rfl⟩
        · go_ret
          exact ⟨ret_int (legV_neg HN.out (fun x h1 h2 => HO.out x h1 (by omega))).symm, rfl⟩
      · have hs' : (n * n % p == a % p) = false := by simpa using hs
        have HS := Lib.hid hs; clear hs
        go_wp2
        · go_round
          case rel => exact ⟨n + 1, rfl, by omega, by omega, fun x h1 h2 => by
            by_cases e : x = n
            · rw [e]; exact HS.out
            · exact HO.out x h1 (by omega)⟩
          case measure => simp [intOf]; omega
        · go_ret
          exact ⟨ret_int (legV_neg HN.out (fun x h1 h2 => HO.out x h1 (by omega))).symm, rfl⟩

set_option maxHeartbeats 400000 in
theorem l16Parts_any (n p : Int) (w : World) (hn : n ≠ 0) (hn1 : -1000000000000000000 ≤ n) (hn2 : n ≤ 1000000000000000000) (hp : 2 ≤ p) (hp2 : p ≤ 1000000000000000000) :
    Calls Try.prog 67 #[.int .i64 n, .int .i64 p] w fun e w' => e = .returned (.tuple #[.int .i64 (vp p n), .int .i64 (n / p ^ vp p n)]) ∧ w = w' := by
  go_enter Try.func67, Try.ntmps67
  go_wp2
  go_loop [0, 6] (fun b c => ∃ (N : Int) (k : Nat), b = .int .i64 N ∧ c = .int .i64 k ∧ VInv p n N k) (fun b _ => (intOf b).natAbs)
  case atStart => exact ⟨n, 0, rfl, rfl, vInv_start hn⟩
  case round =>
    obtain ⟨N, k, rfl, rfl, hinv⟩ := hrel
    have hk : (k : Int) + N.natAbs ≤ n.natAbs := by have := hinv.2.2; omega
    have hN0 : 1 ≤ N.natAbs := by have := hinv.2.1; omega
    obtain ⟨k1, k2, k3⟩ : (k : Int) ≤ 1000000000000000000 ∧ -1000000000000000000 ≤ N ∧ N ≤ 1000000000000000000 := by omega
    by_cases hd : N % p = 0
    · obtain ⟨s1, s2, s3⟩ := vInv_step hp hinv hd
      have hd' : (N.tmod p == 0) = true := by simpa using (tmod_zero N p).2 hd
      obtain ⟨k4, k5⟩ : -1000000000000000000 ≤ N.tdiv p ∧ N.tdiv p ≤ 1000000000000000000 := by rw [s3]; omega
      have S3 := Lib.hid s3
      have HD := Lib.hid hd
      have S1 := Lib.hid s1
      have S2 := Lib.hid s2
      clear s3 hd s1 s2
      go_wp2
      go_round
      case rel => exact ⟨N / p, k + 1, vint S3.out, by go_num, S1.out⟩
      case measure => have := S2.out; simp [intOf, S3.out]; omega
    · have hd' : (N.tmod p == 0) = false := by simpa using fun h => hd ((tmod_zero N p).1 h)
      have he := Lib.hid (vInv_end hp hinv hd)
      have hN := Lib.hid (show n / p ^ vp p n = N by
        have h4 := pow_pos' (show 1 ≤ p by omega) k
        rw [vInv_end hp hinv hd]
        conv => lhs; rw [hinv.1]
        exact Int.mul_ediv_cancel _ (by omega))
      clear hd
      go_wp2
      go_ret2
      exact ⟨ret2 (by rw [he.out]) (by rw [hN.out]), rfl⟩

def nzB (n : Int) : Bool := inB n (-1000000000000) 1000000000000 && n != 0
theorem nz_iff {n : Int} : nzB n = true ↔ (-1000000000000 ≤ n ∧ n ≤ 1000000000000) ∧ n ≠ 0 := by unfold nzB; rw [Bool.and_eq_true, inB_iff, bne_iff_ne]

theorem isNonzero_any (n : Int) (w : World) :
    Calls Try.prog 71 #[.int .i64 n] w fun e w' => e = .returned (.bool (nzB n)) ∧ w = w' := by
  rcases Bool.eq_false_or_eq_true (inB n (-1000000000000) 1000000000000) with h | h
  · have H := Lib.hid h; clear h
    go_enter Try.func71, Try.ntmps71
    go_wp2_with (go_at_call 62; ((with_reducible refine (calls_bool (isValue_any _ _) H.out).mono ?_); rintro e w' ⟨rfl, rfl⟩))
    go_ret
    exact ⟨ret_bool (by unfold nzB; rw [H.out]; simp), rfl⟩
  · have H := Lib.hid h; clear h
    go_enter Try.func71, Try.ntmps71
    go_wp2_with (go_at_call 62; ((with_reducible refine (calls_bool (isValue_any _ _) H.out).mono ?_); rintro e w' ⟨rfl, rfl⟩))
    go_ret
    exact ⟨ret_bool (by unfold nzB; rw [H.out]; simp), rfl⟩

end Go.Proofs.Ytjampkjgapkklaa
