/- Contracts: is it a polynomial, is it one by a prime. -/
import Derived.Test.YtelpnpfmedlklaaOd
namespace Go.Proofs.Ytelpnpfmedlklaa
open Go.RowKit
set_option linter.unusedVariables false
set_option linter.unusedSimpArgs false

theorem any_not (f : List Int) (lo hi : Int) : f.any (fun x => !inB x lo hi) = !f.all (fun x => inB x lo hi) := by
  rw [Bool.eq_iff_iff]; simp
/-- The test that both ask at the end. -/
def lastB (f : List Int) : Bool := decide (f.length = 0) || el f (f.length - 1) != 0
theorem lastB_ways {f : List Int} {n : Nat} (hn : f.length = n) : (n = 0 ∧ lastB f = true) ∨ (0 < n ∧ ((n : Int) == 0) = false ∧ (el f (n - 1) != 0) = lastB f) := by
  subst hn
  unfold lastB
  by_cases h : f.length = 0
  · exact .inl ⟨h, by simp [h]⟩
  · exact .inr ⟨by omega, by simpa using h, by simp [h]⟩
theorem all_upto {f : List Int} {lo hi : Int} {k : Nat} (h : ∀ j, j < k → inB (el f j) lo hi = true) (hk : f.length ≤ k) : f.all (fun x => inB x lo hi) = true := by
  rw [List.all_eq_true]
  intro x hx
  obtain ⟨j, hj, rfl⟩ := mem_el hx
  exact h j (by omega)
theorem all_bad {f : List Int} {lo hi : Int} {k : Nat} (hk : k < f.length) (h : inB (el f k) lo hi = false) : f.all (fun x => inB x lo hi) = false := by
  rw [Bool.eq_false_iff]
  intro ha
  rw [List.all_eq_true] at ha
  rw [ha _ (el_mem hk)] at h
  cases h
theorem all_next {f : List Int} {lo hi : Int} {k : Nat} (h : ∀ j, j < k → inB (el f j) lo hi = true) (hk : inB (el f k) lo hi = true) : ∀ j, j < k + 1 → inB (el f j) lo hi = true := by
  intro j hj
  by_cases e : j = k
  · rw [e]; exact hk
  · exact h j (by omega)
theorem polyB_def (f : List Int) : polyB f = (decide (f.length ≤ 9) && f.all (fun c => inB c (-1000000) 1000000) && lastB f) := rfl
theorem modlB_def (p : Int) (f : List Int) : modlB p f = (smallB p && decide (f.length ≤ 9) && f.all (fun c => inB c 0 (p - 1)) && lastB f) := rfl

set_option maxHeartbeats 1000000 in
theorem IsModular_any {p : Int} {v : Value} {f : List Int} {w : World} (h : Reads w v f) :
    Calls Try.prog 20 #[.int .i64 p, v] w fun e w' => e = .returned (.bool (modlB p f)) ∧ Below w.heap.size w w' := by
  obtain ⟨a, cap, rfl, h1, h2⟩ := reads_nil_eq h
  obtain ⟨n, hn⟩ : ∃ n, f.length = n := ⟨_, rfl⟩
  rw [hn] at h h1 ⊢
  have HN := Lib.hid hn
  have HR := Lib.hid (h.step (below_box (.cells #[.int .i64 p] 2)))
  have hl := h.1
  rw [hn] at hl
  rcases Bool.eq_false_or_eq_true (smallB p) with hs | hs
  · have hp := small_bd hs
    have HS := Lib.hid hs
    by_cases h9 : n ≤ 9
    · rcases Bool.eq_false_or_eq_true (f.all (fun c => inB c 0 (p - 1))) with ha | ha
      · have HA := Lib.hid (show f.any (fun x => !inB x 0 (p - 1)) = false by rw [any_not, ha]; rfl)
        have HP := Lib.hid (show modlB p f = lastB f by rw [modlB_def, ha, hs, decide_eq_true (HN.out.symm ▸ h9)]; simp)
        clear ha hs
        rcases lastB_ways HN.out with ⟨h0, hl⟩ | ⟨h0, hb0, hl⟩
        · have HL := Lib.hid hl
          subst h0
          clear hl h h2 hn
          go_enter Try.func20, Try.ntmps20
          go_wp2_with (first | (go_at_call 22; ((with_reducible refine (calls_bool (isSmallPrime_any _ _) HS.out).mono ?_); rintro e w' ⟨rfl, rfl⟩)) | (go_at_call 32; ((with_reducible refine (calls_bool (ContainsFunc_modl _ HR.out (fun x => isMod1_any x (by simp) hp)) HA.out).mono ?_); rintro e w' ⟨rfl, rfl⟩)))
          go_ret
          exact ⟨ret_bool (by first | rw [HP.out, HL.out] | (rw [HP.out]; simp [HL.out])), (by repeat (first | assumption | exact Below.refl _ _ | exact below_box _ | refine Below.drew ?_ | refine Below.setCell ?_ (by first | (simp; done) | (simp; omega)) _ | (refine below_step (by assumption) (by first | omega | (simp; done) | (simp; omega)) ?_) | (refine Below.alloc ?_ (by first | omega | (simp; done) | (simp; omega)) _)))⟩
        · obtain ⟨b, o, rfl, hc⟩ := HR.out.at (k := n - 1) (by rw [HN.out]; omega)
          have HL := Lib.hid hl
          clear hl h h2 hn
          go_enter Try.func20, Try.ntmps20
          go_wp2_with (first | (go_at_call 22; ((with_reducible refine (calls_bool (isSmallPrime_any _ _) HS.out).mono ?_); rintro e w' ⟨rfl, rfl⟩)) | (go_at_call 32; ((with_reducible refine (calls_bool (ContainsFunc_modl _ HR.out (fun x => isMod1_any x (by simp) hp)) HA.out).mono ?_); rintro e w' ⟨rfl, rfl⟩)))
          go_ret
          exact ⟨ret_bool (by first | rw [HP.out, HL.out] | (rw [HP.out]; simp [HL.out])), (by repeat (first | assumption | exact Below.refl _ _ | exact below_box _ | refine Below.drew ?_ | refine Below.setCell ?_ (by first | (simp; done) | (simp; omega)) _ | (refine below_step (by assumption) (by first | omega | (simp; done) | (simp; omega)) ?_) | (refine Below.alloc ?_ (by first | omega | (simp; done) | (simp; omega)) _)))⟩
      · have HA := Lib.hid (show f.any (fun x => !inB x 0 (p - 1)) = true by rw [any_not, ha]; rfl)
        have HP := Lib.hid (show modlB p f = false by rw [modlB_def, ha]; simp)
        clear ha h h2 hs hn
        go_enter Try.func20, Try.ntmps20
        go_wp2_with (first | (go_at_call 22; ((with_reducible refine (calls_bool (isSmallPrime_any _ _) HS.out).mono ?_); rintro e w' ⟨rfl, rfl⟩)) | (go_at_call 32; ((with_reducible refine (calls_bool (ContainsFunc_modl _ HR.out (fun x => isMod1_any x (by simp) hp)) HA.out).mono ?_); rintro e w' ⟨rfl, rfl⟩)))
        go_ret
        exact ⟨ret_bool (by rw [HP.out]), (by repeat (first | assumption | exact Below.refl _ _ | exact below_box _ | refine Below.drew ?_ | refine Below.setCell ?_ (by first | (simp; done) | (simp; omega)) _ | (refine below_step (by assumption) (by first | omega | (simp; done) | (simp; omega)) ?_) | (refine Below.alloc ?_ (by first | omega | (simp; done) | (simp; omega)) _)))⟩
    · have HP := Lib.hid (show modlB p f = false by rw [modlB_def, decide_eq_false (HN.out.symm ▸ h9)]; simp)
      clear h h2 hs hn
      go_enter Try.func20, Try.ntmps20
      go_wp2_with (first | (go_at_call 22; ((with_reducible refine (calls_bool (isSmallPrime_any _ _) HS.out).mono ?_); rintro e w' ⟨rfl, rfl⟩)))
      go_ret
      exact ⟨ret_bool (by rw [HP.out]), (by repeat (first | assumption | exact Below.refl _ _ | exact below_box _ | refine Below.drew ?_ | refine Below.setCell ?_ (by first | (simp; done) | (simp; omega)) _ | (refine below_step (by assumption) (by first | omega | (simp; done) | (simp; omega)) ?_) | (refine Below.alloc ?_ (by first | omega | (simp; done) | (simp; omega)) _)))⟩
  · have HS := Lib.hid hs
    have HP := Lib.hid (show modlB p f = false by rw [modlB_def, hs]; rfl)
    clear h h2 hs hn
    go_enter Try.func20, Try.ntmps20
    go_wp2_with (first | (go_at_call 22; ((with_reducible refine (calls_bool (isSmallPrime_any _ _) HS.out).mono ?_); rintro e w' ⟨rfl, rfl⟩)))
    go_ret
    exact ⟨ret_bool (by rw [HP.out]), (by repeat (first | assumption | exact Below.refl _ _ | exact below_box _ | refine Below.drew ?_ | refine Below.setCell ?_ (by first | (simp; done) | (simp; omega)) _ | (refine below_step (by assumption) (by first | omega | (simp; done) | (simp; omega)) ?_) | (refine Below.alloc ?_ (by first | omega | (simp; done) | (simp; omega)) _)))⟩

set_option maxHeartbeats 1000000 in
theorem sIsModular_any {p : Int} {v : Value} {f : List Int} {w : World} (h : Reads w v f) :
    Calls Try.prog 15 #[.int .i64 p, v] w fun e w' => e = .returned (.bool (modlB p f)) ∧ w = w' := by
  obtain ⟨a, cap, rfl, h1, h2⟩ := reads_nil_eq h
  obtain ⟨n, hn⟩ : ∃ n, f.length = n := ⟨_, rfl⟩
  rw [hn] at h h1 ⊢
  have HN := Lib.hid hn
  have HR := Lib.hid h
  have hl := h.1
  rw [hn] at hl
  clear h h2 hn
  rcases Bool.eq_false_or_eq_true (smallB p) with hs | hs
  · have hp := small_bd hs
    have HS := Lib.hid hs
    by_cases h9 : n ≤ 9
    · clear hs
      go_enter Try.func15, Try.ntmps15
      go_wp2_with (go_at_call 14; ((with_reducible refine (calls_bool (l01Small_any _ _) HS.out).mono ?_); rintro e w' ⟨rfl, rfl⟩))
      go_loop [5] (fun c => ∃ k : Nat, c = .int .i64 (k : Int) ∧ k ≤ n ∧ Hid (∀ j, j < k → inB (el f j) 0 (p - 1) = true)) (fun c => n - (intOf c).toNat)
      case atStart => exact ⟨0, rfl, by omega, Lib.hid (fun j hj => by omega)⟩
      case round =>
        obtain ⟨k, rfl, hk, HI⟩ := hrel
        by_cases hlt : k < n
        · obtain ⟨b, o, rfl, hc⟩ := HR.out.at (by rw [HN.out]; exact hlt)
          rcases Bool.eq_false_or_eq_true (inB (el f k) 0 (p - 1)) with hb | hb
          · have HB := Lib.hid hb
            clear hb
            go_wp2_with (go_at_call 16; ((with_reducible refine (calls_bool (l01In_any _ _ _ _) HB.out).mono ?_); rintro e w' ⟨rfl, rfl⟩))
            go_round
            case rel => exact ⟨k + 1, by go_num, by omega, Lib.hid (all_next HI.out HB.out)⟩
            case measure => simp [intOf]; omega
          · have HB := Lib.hid hb
            clear hb
            go_wp2_with (go_at_call 16; ((with_reducible refine (calls_bool (l01In_any _ _ _ _) HB.out).mono ?_); rintro e w' ⟨rfl, rfl⟩))
            go_ret
            exact ⟨ret_bool (by rw [modlB_def, all_bad (by rw [HN.out]; exact hlt) HB.out]; simp), rfl⟩
        · have HA := Lib.hid (all_upto HI.out (by rw [HN.out]; omega))
          clear HI
          have HP := Lib.hid (show modlB p f = lastB f by rw [modlB_def, HS.out, HA.out, decide_eq_true (HN.out.symm ▸ h9)]; simp)
          rcases lastB_ways HN.out with ⟨h0, hl⟩ | ⟨h0, hb0, hl⟩
          · have HL := Lib.hid hl
            subst h0
            clear hl
            go_wp2
            go_ret
            exact ⟨ret_bool (by first | rw [HP.out, HL.out] | (rw [HP.out]; simp [HL.out])), rfl⟩
          · obtain ⟨b, o, rfl, hc⟩ := HR.out.at (k := n - 1) (by rw [HN.out]; omega)
            have HL := Lib.hid hl
            clear hl
            go_wp2
            go_ret
            exact ⟨ret_bool (by first | rw [HP.out, HL.out] | (rw [HP.out]; simp [HL.out])), rfl⟩
    · have HP := Lib.hid (show modlB p f = false by rw [modlB_def, decide_eq_false (HN.out.symm ▸ h9)]; simp)
      clear hs
      go_enter Try.func15, Try.ntmps15
      go_wp2_with (go_at_call 14; ((with_reducible refine (calls_bool (l01Small_any _ _) HS.out).mono ?_); rintro e w' ⟨rfl, rfl⟩))
      go_ret
      exact ⟨ret_bool (by rw [HP.out]), rfl⟩
  · have HS := Lib.hid hs
    have HP := Lib.hid (show modlB p f = false by rw [modlB_def, hs]; rfl)
    clear hs
    go_enter Try.func15, Try.ntmps15
    go_wp2_with (go_at_call 14; ((with_reducible refine (calls_bool (l01Small_any _ _) HS.out).mono ?_); rintro e w' ⟨rfl, rfl⟩))
    go_ret
    exact ⟨ret_bool (by rw [HP.out]), rfl⟩

end Go.Proofs.Ytelpnpfmedlklaa
