/- Contracts: identity, powers of permutations, factorials. -/
import Derived.Test.YtlndfjplhfgicaaW
import Derived.Test.YtlndfjplhfgicaaE
namespace Go.Proofs.Ytlndfjplhfgicaa
open Go.RowKit
set_option linter.unusedVariables false
set_option linter.unusedSimpArgs false

theorem seqL_snoc (k : Int) (n : Nat) : seqL k (n + 1) = seqL k n ++ [k + n] := by
  simp [seqL, List.range_succ]
theorem prodN_el (a b : List Int) : ∀ k j, j < k → el (prodN a b k) j = el a (el b j).toNat
  | 0, j, h => by omega
  | k + 1, j, h => by
    simp only [prodN, el, List.getD_eq_getElem?_getD]
    by_cases hj : j < k
    · rw [List.getElem?_append_left (by rw [prodN_len]; exact hj)]
      have := prodN_el a b k j hj
      simp only [el, List.getD_eq_getElem?_getD] at this
      exact this
    · obtain rfl : j = k := by omega
      rw [List.getElem?_append_right (by rw [prodN_len]; exact Nat.le_refl _), prodN_len]
      simp
theorem prodL_len (a b : List Int) : (prodL a b).length = b.length := prodN_len a b _
theorem prodL_el {a b : List Int} {j : Nat} (h : j < b.length) : el (prodL a b) j = el a (el b j).toNat := prodN_el a b _ j h
/-- Its numbers are places of a list of n. -/
def Pts (n : Nat) (a : List Int) : Prop := ∀ k, k < a.length → 0 ≤ el a k ∧ el a k < n
theorem Pts.prod {n m : Nat} {a b : List Int} (ha : Pts n a) (hb : Pts m b) (h : m ≤ a.length) : Pts n (prodL a b) := by
  intro k hk
  rw [prodL_len] at hk
  rw [prodL_el hk]
  have := hb k hk
  exact ha _ (by omega)
theorem prodL_assoc {a b c : List Int} (hc : Pts b.length c) : prodL (prodL a b) c = prodL a (prodL b c) := by
  apply el_ext
  · rw [prodL_len, prodL_len, prodL_len]
  · intro k hk
    rw [prodL_len] at hk
    have := hc k hk
    rw [prodL_el hk, prodL_el (by omega), prodL_el (by rw [prodL_len]; exact hk), prodL_el hk]
theorem seq_pts (n : Nat) : Pts n (seqL 0 n) := by
  intro k hk
  rw [seq_len] at hk
  rw [seq_el hk]
  omega
theorem prodL_one {a : List Int} {n : Nat} (h : a.length = n) : prodL a (seqL 0 n) = a := by
  apply el_ext
  · rw [prodL_len, seq_len, h]
  · intro k hk
    rw [prodL_len, seq_len] at hk
    rw [prodL_el (by rw [seq_len]; exact hk), seq_el hk]
    congr 1
    omega
theorem one_prodL {a : List Int} {n : Nat} (h : Pts n a) : prodL (seqL 0 n) a = a := by
  apply el_ext
  · rw [prodL_len]
  · intro k hk
    rw [prodL_len] at hk
    have := h k hk
    rw [prodL_el hk, seq_el (by omega)]
    omega
/-- The k-th power, the base on the right. -/
def powR (a : List Int) : Nat → List Int
  | 0 => seqL 0 a.length
  | k + 1 => prodL (powR a k) a
theorem powR_len (a : List Int) : ∀ k, (powR a k).length = a.length
  | 0 => seq_len _ _
  | k + 1 => prodL_len _ _
theorem powR_pts {a : List Int} (h : Pts a.length a) : ∀ k, Pts a.length (powR a k)
  | 0 => seq_pts _
  | k + 1 => (powR_pts h k).prod h (by rw [powR_len]; exact Nat.le_refl _)
/-- The base on the left gives the same. -/
theorem powL_step {a : List Int} (h : Pts a.length a) : ∀ k, prodL a (powR a k) = powR a (k + 1)
  | 0 => by rw [powR, powR, powR, prodL_one rfl, one_prodL h]
  | k + 1 => by
    rw [powR, ← prodL_assoc (by rw [powR_len]; exact h), powL_step h k, ← powR]

theorem elP_set {l : List Int} {i j : Nat} {x : Int} : el (l.set i x) j = if i = j ∧ i < l.length then x else el l j := by
  simp only [el, List.getD_eq_getElem?_getD, List.getElem?_set]
  by_cases e : i = j
  · subst e
    by_cases h : i < l.length
    · rw [if_pos rfl, if_pos h, if_pos ⟨rfl, h⟩]; rfl
    · rw [if_pos rfl, if_neg h, if_neg (fun hh => h hh.2), List.getElem?_eq_none (by omega)]
  · rw [if_neg e, if_neg (fun hh => e hh.1)]
theorem invN_pts {zs : List Int} (hp : 1 ≤ zs.length) : ∀ k, k ≤ zs.length → Pts zs.length (invN zs k)
  | 0, _ => by
    intro j hj
    simp only [invN, List.length_replicate] at hj
    simp [invN, el, List.getD_eq_getElem?_getD, List.getElem?_replicate, hj]
    omega
  | k + 1, hk => by
    intro j hj
    have ih := invN_pts hp k (by omega)
    simp only [invN, List.length_set] at hj
    rw [invN, elP_set]
    by_cases e : (el zs k).toNat = j ∧ (el zs k).toNat < (invN zs k).length
    · rw [if_pos e]
      omega
    · rw [if_neg e]
      exact ih j hj
theorem invL_pts {zs : List Int} (hp : 1 ≤ zs.length) : Pts zs.length (invL zs) := invN_pts hp _ (Nat.le_refl _)
theorem invL_len (zs : List Int) : (invL zs).length = zs.length := invN_len zs _

theorem abs_any (n : Int) (w : World) (h1 : -9223372036854775807 ≤ n) (h2 : n ≤ 9223372036854775807) :
    Calls Try.prog 214 #[.int .i64 n] w fun e w' => e = .returned (.int .i64 n.natAbs) ∧ w = w' := by
  by_cases h : 0 ≤ n
  · go_enter Try.func214, Try.ntmps214
    go_wp2
    go_ret
    exact ⟨ret_int (by omega), rfl⟩
  · go_enter Try.func214, Try.ntmps214
    go_wp2
    go_ret
    exact ⟨ret_int (by omega), rfl⟩

/-- Factorials. -/
def factN : Nat → Int
  | 0 => 1
  | n + 1 => (n + 1) * factN n
theorem factN_bd {n : Nat} (h : n ≤ 6) : 1 ≤ factN n ∧ factN n ≤ 720 := by
  have : n = 0 ∨ n = 1 ∨ n = 2 ∨ n = 3 ∨ n = 4 ∨ n = 5 ∨ n = 6 := by omega
  rcases this with rfl | rfl | rfl | rfl | rfl | rfl | rfl <;> decide
end Go.Proofs.Ytlndfjplhfgicaa
