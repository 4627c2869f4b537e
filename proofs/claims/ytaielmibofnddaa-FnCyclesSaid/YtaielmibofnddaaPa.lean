/- Contracts: identity, powers of permutations, factorials. -/
import Derived.Test.YtaielmibofnddaaW
import Derived.Test.YtaielmibofnddaaE
namespace Go.Proofs.Ytaielmibofnddaa
open Go.RowKit
set_option linter.unusedVariables false
set_option linter.unusedSimpArgs false

theorem seqL_snoc (k : Int) (n : Nat) : seqL k (n + 1) = seqL k n ++ [k + n] := by
  simp [seqL, List.range_succ]
theorem prodN_el (a b : List Int) : ∀ k j, j < k → el (prodN a b k) j = el a (el b j).toNat
  | 0, j, h => by omega
  | k + 1, j, h => by
    simp only [prodN, el, List.getD_eq_getElem?_getD]
    by_cases hj : j < k
    · rw [List.getElem?_append_left (by rw [prodN_len]; exact hj)]
      have := prodN_el a b k j hj
      simp only [el, List.getD_eq_getElem?_getD] at this
      exact this
    · obtain rfl : j = k := by omega
      rw [List.getElem?_append_right (by rw [prodN_len]; exact Nat.le_refl _), prodN_len]
      simp
theorem prodL_len (a b : List Int) : (prodL a b).length = b.length := prodN_len a b _
theorem prodL_el {a b : List Int} {j : Nat} (h : j < b.length) : el (prodL a b) j = el a (el b j).toNat := prodN_el a b _ j h
/-- Its numbers are places of a list of n. -/
def Pts (n : Nat) (a : List Int) : Prop := ∀ k, k < a.length → 0 ≤ el a k ∧ el a k < n
theorem Pts.prod {n m : Nat} {a b : List Int} (ha : Pts n a) (hb : Pts m b) (h : m ≤ a.length) : Pts n (prodL a b) := by
  intro k hk
  rw [prodL_len] at hk
  rw [prodL_el hk]
  have := hb k hk
  exact ha _ (by omega)
theorem prodL_assoc {a b c : List Int} (hc : Pts b.length c) : prodL (prodL a b) c = prodL a (prodL b c) := by
  apply el_ext
  · rw [prodL_len, prodL_len, prodL_len]
  · intro k hk
    rw [prodL_len] at hk
    have := hc k hk
    rw [prodL_el hk, prodL_el (by omega), prodL_el (by rw [prodL_len]; exact hk), prodL_el hk]
theorem seq_pts (n : Nat) : Pts n (seqL 0 n) := by
  intro k hk
  rw [seq_len] at hk
  rw [seq_el hk]
  omega
theorem prodL_one {a : List Int} {n : Nat} (h : a.length = n) : prodL a (seqL 0 n) = a := by
  apply el_ext
  · rw [prodL_len, seq_len, h]
  · intro k hk
    rw [prodL_len, seq_len] at hk
    rw [prodL_el (by rw [seq_len]; exact hk), seq_el hk]
    congr 1
    omega
theorem one_prodL {a : List Int} {n : Nat} (h : Pts n a) : prodL (seqL 0 n) a = a := by
  apply el_ext
  · rw [prodL_len]
  · intro k hk
    rw [prodL_len] at hk
    have := h k hk
    rw [prodL_el hk, seq_el (by omega)]
    omega
/-- The k-th power, the base on the right. -/
def powR (a : List Int) : Nat → List Int
  | 0 => seqL 0 a.length
  | k + 1 => prodL (powR a k) a
theorem powR_len (a : List Int) : ∀ k, (powR a k).length = a.length
  | 0 => seq_len _ _
  | k + 1 => prodL_len _ _
theorem powR_pts {a : List Int} (h : Pts a.length a) : ∀ k, Pts a.length (powR a k)
  | 0 => seq_pts _
  | k + 1 => (powR_pts h k).prod h (by rw [powR_len]; exact Nat.le_refl _)
/-- The base on the left gives the same. -/
theorem powL_step {a : List Int} (h : Pts a.length a) : ∀ k, prodL a (powR a k) = powR a (k + 1)
  | 0 => by rw [powR, powR, powR, prodL_one rfl, one_prodL h]
  | k + 1 => by
    rw [powR, ← prodL_assoc (by rw [powR_len]; exact h), powL_step h k, ← powR]

theorem elP_set {l : List Int} {i j : Nat} {x : Int} : el (l.set i x) j = if i = j ∧ i < l.length then x else el l j := by
  simp only [el, List.getD_eq_getElem?_getD, List.getElem?_set]
  by_cases e : i = j
  · subst e
    by_cases h : i < l.length
    · rw [if_pos rfl, if_pos h, if_pos ⟨rfl, h⟩]; rfl
    · rw [if_pos rfl, if_neg h, if_neg (fun hh => h hh.2), List.getElem?_eq_none (by omega)]
  · rw [if_neg e, if_neg (fun hh => e hh.1)]
theorem invN_pts {zs : List Int} (hp : 1 ≤ zs.length) : ∀ k, k ≤ zs.length → Pts zs.length (invN zs k)
  | 0, _ => by
    intro j hj
    simp only [invN, List.length_replicate] at hj
    simp [invN, el, List.getD_eq_getElem?_getD, List.getElem?_replicate, hj]
    omega
  | k + 1, hk => by
    intro j hj
    have ih := invN_pts hp k (by omega)
    simp only [invN, List.length_set] at hj
    rw [invN, elP_set]
    by_cases e : (el zs k).toNat = j ∧ (el zs k).toNat < (invN zs k).length
    · rw [if_pos e]
      omega
    · rw [if_neg e]
      exact ih j hj
theorem invL_pts {zs : List Int} (hp : 1 ≤ zs.length) : Pts zs.length (invL zs) := invN_pts hp _ (Nat.le_refl _)
theorem invL_len (zs : List Int) : (invL zs).length = zs.length := invN_len zs _

theorem abs_any (n : Int) (w : World) (h1 : -9223372036854775807 ≤ n) (h2 : n ≤ 9223372036854775807) :
    Calls Try.prog 39 #[.int .i64 n] w fun e w' => e = .returned (.int .i64 n.natAbs) ∧ w = w' := by
  by_cases h : 0 ≤ n
  · go_enter Try.func39, Try.ntmps39
    go_wp2
    go_ret
    exact ⟨ret_int (by omega), rfl⟩
  · go_enter Try.func39, Try.ntmps39
    go_wp2
    go_ret
    exact ⟨ret_int (by omega), rfl⟩

set_option maxHeartbeats 1000000 in
theorem identity_any (n : Nat) (w : World) (hn : n ≤ 1048576) :
    Calls Try.prog 37 #[.int .i64 (n : Int)] w (RetInts (seqL 0 n) w) := by
  go_enter Try.func37, Try.ntmps37
  go_wp2
  go_loopw [3, 6] (fun r c wr => ∃ k : Nat, c = .int .i64 (k : Int) ∧ k ≤ n ∧ Own wr w.heap.size r (seqL 0 k) ∧ Below w.heap.size w wr) (fun _ c _ => n - (intOf c).toNat)
  case atStart => exact ⟨0, rfl, by omega, by simpa [seqL] using Own.nil, Below.refl _ _⟩
  case round =>
    obtain ⟨k, rfl, hk, hown, hbel⟩ := hrel
    have HO := Lib.hid hown
    have HB := Lib.hid hbel
    clear hown hbel
    by_cases hlt : k < n
    · go_wp2_with (at_builtin; refine append_one _ rfl _ _ rfl rfl HO.out (by rw [seq_len]; omega) HB.out.size rfl ?_)
      intro v1 w1 hown1 hbel1
      have HO1 := Lib.hid (show Own w1 w.heap.size v1 (seqL 0 (k + 1)) by rw [seqL_snoc]; simpa using hown1)
      have HB1 := Lib.hid (HB.out.trans hbel1)
      clear hown1 hbel1
      go_wp2
      go_roundw
      case rel => exact ⟨k + 1, by go_num, by omega, HO1.out, HB1.out⟩
      case measure => simp [intOf]; omega
    · obtain rfl : k = n := by omega
      go_wp2
      go_ret
      exact ⟨_, rfl, HO.out, HB.out⟩
set_option maxHeartbeats 1000000 in
theorem l21One_any (n : Nat) (w : World) (hn : n ≤ 1048576) :
    Calls Try.prog 43 #[.int .i64 (n : Int)] w (RetInts (seqL 0 n) w) := by
  go_enter Try.func43, Try.ntmps43
  go_wp2
  go_loopw [3, 4] (fun r c wr => ∃ k : Nat, c = .int .i64 (k : Int) ∧ k ≤ n ∧ Own wr w.heap.size r (seqL 0 k) ∧ Below w.heap.size w wr) (fun _ c _ => n - (intOf c).toNat)
  case atStart => exact ⟨0, rfl, by omega, by simpa [seqL] using Own.empty (Nat.le_refl _), below_box _⟩
  case round =>
    obtain ⟨k, rfl, hk, hown, hbel⟩ := hrel
    have HO := Lib.hid hown
    have HB := Lib.hid hbel
    clear hown hbel
    by_cases hlt : k < n
    · go_wp2_with (at_builtin; refine append_one _ rfl _ _ rfl rfl HO.out (by rw [seq_len]; omega) HB.out.size rfl ?_)
      intro v1 w1 hown1 hbel1
      have HO1 := Lib.hid (show Own w1 w.heap.size v1 (seqL 0 (k + 1)) by rw [seqL_snoc]; simpa using hown1)
      have HB1 := Lib.hid (HB.out.trans hbel1)
      clear hown1 hbel1
      go_wp2
      go_roundw
      case rel => exact ⟨k + 1, by go_num, by omega, HO1.out, HB1.out⟩
      case measure => simp [intOf]; omega
    · obtain rfl : k = n := by omega
      go_wp2
      go_ret
      exact ⟨_, rfl, HO.out, HB.out⟩

/-- Factorials. -/
def factN : Nat → Int
  | 0 => 1
  | n + 1 => (n + 1) * factN n
theorem factN_bd {n : Nat} (h : n ≤ 6) : 1 ≤ factN n ∧ factN n ≤ 720 := by
  have : n = 0 ∨ n = 1 ∨ n = 2 ∨ n = 3 ∨ n = 4 ∨ n = 5 ∨ n = 6 := by omega
  rcases this with rfl | rfl | rfl | rfl | rfl | rfl | rfl <;> decide
/-- n * (n - 1) * .. down to k + 1. -/
theorem l21Factorial_any (n : Nat) (w : World) (hn : n ≤ 6) :
    Calls Try.prog 52 #[.int .i64 (n : Int)] w fun e w' => e = .returned (.int .i64 (factN n)) ∧ w = w' := by
  go_enter Try.func52, Try.ntmps52
  go_wp2
  go_loop [0, 3] (fun c r => ∃ (k : Nat) (R : Int), c = .int .i64 (k : Int) ∧ k ≤ n ∧ r = .int .i64 R ∧ 0 ≤ R ∧ R ≤ 7 ^ (n - k) ∧ Hid (R * factN k = factN n)) (fun c _ => (intOf c).toNat)
  case atStart => exact ⟨n, 1, rfl, by omega, rfl, by omega, by simp, Lib.hid (by omega)⟩
  case round =>
    obtain ⟨k, R, rfl, hk, rfl, hR, hR2, HE⟩ := hrel
    by_cases hlt : 1 < k
    · have hp : (7 : Int) ^ (n - k) ≤ 7 ^ 6 := by
        have : (7 : Nat) ^ (n - k) ≤ 7 ^ 6 := Nat.pow_le_pow_right (by decide) (by omega)
        exact_mod_cast this
      have hm1 : 0 ≤ R * (k : Int) := Int.mul_nonneg (by omega) (by omega)
      have hm2 : R * (k : Int) ≤ 7 ^ (n - k) * 7 := Int.mul_le_mul hR2 (by omega) (by omega) (by omega)
      have hm3 : R * (k : Int) ≤ 1000000 := by
        have : (7 : Int) ^ 6 = 117649 := by decide
        omega
      have HM := Lib.hid (show R * (k : Int) ≤ 7 ^ (n - (k - 1)) by rw [show n - (k - 1) = n - k + 1 by omega, Int.pow_succ]; exact hm2)
      have HE2 := Lib.hid (show R * (k : Int) * factN (k - 1) = factN n by
        rw [← HE.out]
        obtain ⟨j, rfl⟩ : ∃ j, k = j + 1 := ⟨k - 1, by omega⟩
        rw [Nat.add_sub_cancel, Int.mul_assoc]
        rfl)
      clear hR2 hp hm2
      go_wp2
      go_round
      case rel => exact ⟨k - 1, _, vint (by omega), by omega, rfl, hm1, HM.out, HE2.out⟩
      case measure => simp [intOf]; omega
    · have HQ := Lib.hid (show R = factN n by
        rw [← HE.out]
        have : k = 0 ∨ k = 1 := by omega
        rcases this with rfl | rfl <;> simp [factN])
      clear hR2
      go_wp2
      go_ret
      exact ⟨ret_int HQ.out, rfl⟩

end Go.Proofs.Ytaielmibofnddaa
