/- Contracts: tests on all numbers of a slice by a function value. -/
import Derived.Test.YtelpnpfmedlklaaOc
namespace Go.Proofs.Ytelpnpfmedlklaa
open Go.RowKit
set_option linter.unusedVariables false
set_option linter.unusedSimpArgs false

/-- The first place from k on (n numbers are left) at which P holds, or -1. -/
def idxG (P : Int → Bool) (zs : List Int) : Nat → Nat → Int
  | 0, _ => -1
  | n + 1, k => if P (el zs k) then k else idxG P zs n (k + 1)
def idxF (P : Int → Bool) (zs : List Int) : Int := idxG P zs zs.length 0
theorem idxG_any (P : Int → Bool) (zs : List Int) : ∀ n k, n + k = zs.length → (0 ≤ idxG P zs n k ↔ (zs.drop k).any P = true)
  | 0, k, h => by rw [List.drop_eq_nil_of_le (by omega)]; simp [idxG]
  | n + 1, k, h => by
    have hk : k < zs.length := by omega
    have e : zs.drop k = el zs k :: zs.drop (k + 1) := by
      rw [List.drop_eq_getElem_cons hk]
      congr 1
      have := el_get hk
      rw [List.getElem?_eq_getElem hk] at this
      injection this
    rw [idxG, e, List.any_cons]
    by_cases hp : P (el zs k) = true
    · rw [if_pos hp, hp]; simp
    · rw [if_neg hp, idxG_any P zs n (k + 1) (by omega)]
      rw [Bool.not_eq_true] at hp
      rw [hp]; simp
theorem idxF_any (P : Int → Bool) (zs : List Int) [i : Decidable (0 ≤ idxF P zs)] : @decide _ i = zs.any P := by
  have := idxG_any P zs zs.length 0 (by omega)
  rw [List.drop_zero] at this
  rw [Bool.eq_iff_iff, decide_eq_true_iff]
  exact this
theorem idxG_bd (P : Int → Bool) (zs : List Int) : ∀ n k, n + k ≤ zs.length → -1 ≤ idxG P zs n k ∧ idxG P zs n k ≤ zs.length
  | 0, k, h => by simp only [idxG]; omega
  | n + 1, k, h => by
    rw [idxG]
    split
    · omega
    · exact idxG_bd P zs n (k + 1) (by omega)
theorem idxG_stop {P : Int → Bool} {zs : List Int} {n k : Nat} (h : k < n) (hp : P (el zs k) = true) : idxG P zs (n - k) k = k := by
  obtain ⟨m, hm⟩ : ∃ m, n - k = m + 1 := ⟨n - k - 1, by omega⟩
  rw [hm, idxG, if_pos hp]
theorem idxG_next {P : Int → Bool} {zs : List Int} {n k : Nat} (h : k < n) (hp : P (el zs k) = false) : idxG P zs (n - k) k = idxG P zs (n - (k + 1)) (k + 1) := by
  obtain ⟨m, hm⟩ : ∃ m, n - k = m + 1 := ⟨n - k - 1, by omega⟩
  rw [hm, idxG, if_neg (by rw [hp]; simp), show n - (k + 1) = m by omega]

set_option maxHeartbeats 1000000 in
theorem IndexFunc_modl {v : Value} {zs : List Int} {w : World} {B : Nat} (P : Int → Bool) (h : Reads w v zs) (hf : ∀ x, Calls Try.prog 33 #[.int .i64 x, .pointer (some ⟨B, 0, none⟩)] w fun e w' => e = .returned (.bool (P x)) ∧ w = w') :
    Calls Try.prog 40 #[v, .func (.func 33) #[] #[.pointer (some ⟨B, 0, none⟩)]] w fun e w' => e = .returned (.int .i64 (idxF P zs)) ∧ w = w' := by
  obtain ⟨a, cap, rfl, h1, h2⟩ := reads_nil_eq h
  have HR := Lib.hid h
  have hl := h.1
  clear h h2
  go_enter Try.func40, Try.ntmps40
  go_wp2
  go_loop [8] (fun c => ∃ k : Nat, c = .int .i64 (k : Int) ∧ k ≤ zs.length ∧ Hid (idxG P zs (zs.length - k) k = idxF P zs)) (fun c => zs.length - (intOf c).toNat)
  case atStart => exact ⟨0, rfl, by omega, Lib.hid rfl⟩
  case round =>
    obtain ⟨k, rfl, hk, HI⟩ := hrel
    by_cases hlt : k < zs.length
    · obtain ⟨b, o, rfl, hc⟩ := HR.out.at hlt
      rcases Bool.eq_false_or_eq_true (P (el zs k)) with hp | hp
      · have HP := Lib.hid (fun w' (e : w' = w) => by subst e; exact calls_bool (hf (el zs k)) hp)
        have HE := Lib.hid (show idxF P zs = k by rw [← HI.out, idxG_stop hlt hp])
        clear hp
        go_wp2_with (go_at_call 33; ((with_reducible refine (HP.out _ rfl).mono ?_); rintro e w' ⟨rfl, rfl⟩))
        go_ret
        exact ⟨ret_int HE.out.symm, rfl⟩
      · have HP := Lib.hid (fun w' (e : w' = w) => by subst e; exact calls_bool (hf (el zs k)) hp)
        have HN := Lib.hid (show idxG P zs (zs.length - (k + 1)) (k + 1) = idxF P zs by rw [← HI.out, idxG_next hlt hp])
        clear hp
        go_wp2_with (go_at_call 33; ((with_reducible refine (HP.out _ rfl).mono ?_); rintro e w' ⟨rfl, rfl⟩))
        go_round
        case rel => exact ⟨k + 1, by go_num, by omega, HN⟩
        case measure => simp [intOf]; omega
    · have HE := Lib.hid (show idxF P zs = -1 by rw [← HI.out, show zs.length - k = 0 by omega]; rfl)
      go_wp2
      go_ret
      exact ⟨ret_int HE.out.symm, rfl⟩
theorem ContainsFunc_modl {v : Value} {zs : List Int} {w : World} {B : Nat} (P : Int → Bool) (h : Reads w v zs) (hf : ∀ x, Calls Try.prog 33 #[.int .i64 x, .pointer (some ⟨B, 0, none⟩)] w fun e w' => e = .returned (.bool (P x)) ∧ w = w') :
    Calls Try.prog 32 #[v, .func (.func 33) #[] #[.pointer (some ⟨B, 0, none⟩)]] w fun e w' => e = .returned (.bool (zs.any P)) ∧ w = w' := by
  have HC := Lib.hid (IndexFunc_modl P h hf)
  have HA := Lib.hid (idxF_any P zs)
  have hb := idxG_bd P zs zs.length 0 (by omega)
  rw [show idxG P zs zs.length 0 = idxF P zs from rfl] at hb
  have hl := h.1
  clear h hf
  go_enter Try.func32, Try.ntmps32
  go_wp2_with (go_at_call 40; ((with_reducible refine (HC.out).mono ?_); rintro e w' ⟨rfl, rfl⟩))
  go_ret
  exact ⟨ret_bool HA.out, rfl⟩

theorem isMod1_any {B : Nat} {p : Int} (x : Int) {w : World} (hc : w.cell? ⟨B, 0, none⟩ = some (.int .i64 p)) (hp : 2 ≤ p ∧ p ≤ 97) : Calls Try.prog 33 #[.int .i64 x, .pointer (some ⟨B, 0, none⟩)] w fun e w' => e = .returned (.bool (!inB x 0 (p - 1))) ∧ w = w' := by
  go_enter Try.func33, Try.ntmps33
  go_wp2_with (go_at_call 21; ((with_reducible refine (within_any _ _ _ _).mono ?_); rintro e w' ⟨rfl, rfl⟩))
  go_ret
  exact ⟨rfl, rfl⟩

end Go.Proofs.Ytelpnpfmedlklaa
