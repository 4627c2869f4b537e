/- Contracts: tables of symbols. -/
import Derived.Test.YtjampkjgapkklaaBa
import Derived.Test.YtjampkjgapkklaaPc
namespace Go.Proofs.Ytjampkjgapkklaa
open Go.RowKit
set_option linter.unusedVariables false
set_option linter.unusedSimpArgs false

theorem Own.one {w : World} {lo : Nat} (h : lo ≤ w.heap.size) (x : Int) : Own (w.alloc (.cells #[.int .i64 x] 2)) lo (.slice (some ⟨w.heap.size, 0, none⟩) 1 1) [x] := by
  refine ⟨by simp, by simp, .inr ⟨w.heap.size, 1, #[.int .i64 x], rfl, h, ?_, by simp, by simp [maxLen], by simp, by simp⟩⟩
  show (w.heap.push _)[w.heap.size]? = _
  simp

/-- The table of symbols. -/
def tabP (a b : Int) : List Int := 0 :: badL a b
def tabL (a b : Int) : List Int := if badC a b = 0 then (tabP a b).map (fun p => hilV p a b) else []
theorem badS_mem (a b : Int) : ∀ k, ∀ p ∈ (badS a b k).2.2, 2 ≤ p ∧ p ≤ (k : Int) + 1
  | 0, p, h => by simp [badS] at h
  | k + 1, p, h => by
    have ih := badS_mem a b k
    simp only [badS, badStep] at h
    split at h
    · simp only at h
      split at h
      · rcases List.mem_append.1 h with h | h
        · have := ih p h; omega
        · simp at h; omega
      · have := ih p h; omega
    · have := ih p h; omega
theorem badS_len (a b : Int) : ∀ k, (badS a b (k + 1)).2.2 ≠ []
  | 0 => by
    have h2 : primeB 2 = true := by decide
    simp [badS, badStep, h2]
  | k + 1 => by
    have ih := badS_len a b k
    rw [badS, badStep]
    split
    · simp only
      split
      · simp
      · exact ih
    · exact ih
theorem badL_zero {a b : Int} (h : badC a b = 0) : nzB a = true ∧ nzB b = true ∧ badL a b = (badS a b 96).2.2 := by
  unfold badC at h
  unfold badL
  by_cases ha : nzB a = true
  · rw [if_pos ha] at h ⊢
    by_cases hb : nzB b = true
    · rw [if_pos hb] at h ⊢
      by_cases hf : badFin (badS a b 96) = true
      · rw [if_pos hf]; exact ⟨ha, hb, rfl⟩
      · rw [if_neg hf] at h; cases h
    · rw [if_neg hb] at h; cases h
  · rw [if_neg ha] at h; cases h
theorem badS_cnt (a b : Int) : ∀ k, (badS a b k).2.2.length ≤ k
  | 0 => by simp [badS]
  | k + 1 => by
    have ih := badS_cnt a b k
    simp only [badS, badStep]
    split
    · simp only
      split
      · simp; omega
      · omega
    · omega
theorem tabP_bd {a b : Int} (h : badC a b = 0) : (tabP a b).length ≤ 97 ∧ 2 ≤ (tabP a b).length ∧ ∀ k, k < (tabP a b).length → (el (tabP a b) k = 0 ∨ (2 ≤ el (tabP a b) k ∧ el (tabP a b) k ≤ 97)) := by
  obtain ⟨_, _, e⟩ := badL_zero h
  have h1 := badS_cnt a b 96
  have h2 := badS_len a b 95
  have h3 : 0 < (badS a b 96).2.2.length := List.length_pos_iff.2 h2
  unfold tabP
  rw [e]
  refine ⟨by simp; omega, by simp; omega, fun k hk => ?_⟩
  cases k with
  | zero => exact .inl rfl
  | succ k =>
    right
    have hm := badS_mem a b 96 (el (badS a b 96).2.2 k) (el_mem (by simpa using hk))
    have : el (0 :: (badS a b 96).2.2) (k + 1) = el (badS a b 96).2.2 k := by simp [el]
    rw [this]
    omega
/-- Its first k numbers. -/
def tabN (a b : Int) (k : Nat) : List Int := ((tabP a b).take k).map (fun p => hilV p a b)
theorem tabN_len {a b : Int} {k : Nat} (h : k ≤ (tabP a b).length) : (tabN a b k).length = k := by simp [tabN]; omega
theorem tabN_step {a b : Int} {k : Nat} (h : k < (tabP a b).length) : tabN a b (k + 1) = tabN a b k ++ [hilV (el (tabP a b) k) a b] := by
  unfold tabN
  rw [List.take_add_one, el_get h]
  simp
theorem tabN_all {a b : Int} (h : badC a b = 0) : tabN a b (tabP a b).length = tabL a b := by
  unfold tabN tabL
  rw [if_pos h, List.take_length]
theorem tabL_no {a b : Int} (h : ¬ badC a b = 0) : tabL a b = [] := by unfold tabL; rw [if_neg h]
theorem hil0 {a b : Int} : hilV 0 a b = hilV (el (tabP a b) 0) a b := rfl

set_option maxHeartbeats 4000000 in
theorem symbolTable_any (a b : Int) (w : World) :
    Calls Try.prog 80 #[.int .i64 a, .int .i64 b] w (RetIC (tabL a b) (badC a b) w) := by
  by_cases hc : badC a b = 0
  case neg =>
    have HT := Lib.hid (tabL_no hc)
    have h0 : (badC a b != 0) = true := by simpa using hc
    clear hc
    go_enter Try.func80, Try.ntmps80
    go_wp2_with (go_at_call 78; with_reducible refine (badPrimes_any a b _).mono ?_)
    rintro _ w1 ⟨v1, rfl, o1, hb1⟩
    go_wp2
    go_ret2
    exact ⟨.slice none 0 0, rfl, by rw [HT.out]; exact Own.nil, hb1⟩
  have h0 : (badC a b != 0) = false := by simpa using hc
  have HC := Lib.hid hc
  obtain ⟨n1, n2, n3⟩ := badL_zero hc
  clear n3
  have NA := Lib.hid n1
  have NB := Lib.hid n2
  obtain ⟨t1, t2, t3⟩ := tabP_bd hc
  have HT := Lib.hid t3
  have HL1 := Lib.hid (show [(0 : Int)].length + (badL a b).length ≤ 1099511627776 by simp [tabP] at t1 ⊢; omega)
  have hLp : 0 < (badL a b).length := by simp [tabP] at t2; omega
  clear n1 n2 t3 hc
  go_enter Try.func80, Try.ntmps80
  go_wp2_with (go_at_call 78; with_reducible refine (badPrimes_any a b _).mono ?_)
  rintro _ w1 ⟨v1, rfl, o1, hb1⟩
  obtain ⟨g1, cap1, rfl, p1, p2, p3, p4⟩ := o1.head hLp
  have HO1 := Lib.hid o1
  have HB1 := Lib.hid hb1
  have HN := Lib.hid (((o1.step (below_box (.cells #[.int .i64 0] 2))).news 0))
  clear o1 hb1
  go_wp2_with (at_builtin; refine append_ints _ rfl _ _ rfl rfl (Own.one (Nat.le_refl _) 0) rfl rfl HN.out HL1.out (by simp) ?_)
  intro v2 w2 h2 g2 b2
  have HP := Lib.hid (show Own w2 w1.heap.size v2 (tabP a b) from h2)
  have HB2 := Lib.hid (show Below w.heap.size w w2 from HB1.out.trans (((below_box _).mono HB1.out.size).trans (b2.mono HB1.out.size)))
  obtain ⟨g, cap, rfl, q1, q2, q3, q4⟩ := h2.head (by simp)
  have hq : (0 :: badL a b).length = (tabP a b).length := rfl
  rw [hq] at HP ⊢
  clear h2 g2 b2 hq q3
  go_wp2
  go_loopw [8, 24] (fun r c wr => ∃ k : Nat, c = .int .i64 (k : Int) ∧ k ≤ (tabP a b).length ∧ Own wr w2.heap.size r (tabN a b k) ∧ Below w2.heap.size w2 wr) (fun _ c _ => (tabP a b).length - (intOf c).toNat)
  case atStart => exact ⟨0, rfl, by omega, Own.nil, Below.refl _ _⟩
  case round =>
    obtain ⟨k, rfl, hk, hown, hbel⟩ := hrel
    have HO := Lib.hid hown
    have HB := Lib.hid hbel
    clear hown hbel
    by_cases hlt : k < (tabP a b).length
    · have f1 : wr.cell? ⟨g, k, none⟩ = some (.int .i64 (el (tabP a b) k)) := by rw [HB.out.cell (p := ⟨g, k, none⟩) q2]; exact HP.out.cellAt hlt
      have HH := Lib.hid (HT.out k hlt)
      go_wp2_with (go_at_call 74; with_reducible refine (hilbert_any _ _ _ _ HH.out NA.out NB.out).mono ?_)
      rintro _ w3 ⟨rfl, hb3⟩
      have HB3 := Lib.hid (HB.out.trans (hb3.mono HB.out.size))
      have HO3 := Lib.hid (HO.out.step hb3)
      have hsz : w2.heap.size ≤ w3.heap.size := HB3.out.size
      have HLK := Lib.hid (show (tabN a b k).length + 1 ≤ 1099511627776 by rw [tabN_len hk]; omega)
      clear hb3 f1
      go_wp2_with (at_builtin; refine append_one _ rfl _ _ rfl rfl HO3.out HLK.out hsz rfl ?_)
      intro v4 w4 h4 b4
      have HO4 := Lib.hid (show Own w4 w2.heap.size v4 (tabN a b (k + 1)) by rw [tabN_step hlt]; exact h4)
      have HB4 := Lib.hid (HB3.out.trans b4)
      clear h4 b4
      go_wp2
      go_roundw
      case rel => exact ⟨k + 1, by go_num, by omega, HO4.out, HB4.out⟩
      case measure => simp [intOf]; omega
    · obtain rfl : k = (tabP a b).length := by omega
      go_wp2
      go_ret2
      exact ⟨u8, by simp [HC.out], by have := HO.out.mono HB2.out.size; rw [tabN_all HC.out] at this; exact this, HB2.out.trans (HB.out.mono HB2.out.size)⟩

set_option maxHeartbeats 4000000 in
theorem l16Table_any (a b : Int) (w : World) :
    Calls Try.prog 79 #[.int .i64 a, .int .i64 b] w (RetIC (tabL a b) (badC a b) w) := by
  by_cases hc : badC a b = 0
  case neg =>
    have HT := Lib.hid (tabL_no hc)
    have h0 : (badC a b != 0) = true := by simpa using hc
    clear hc
    go_enter Try.func79, Try.ntmps79
    go_wp2_with (go_at_call 77; with_reducible refine (l16Bad_any a b _).mono ?_)
    rintro _ w1 ⟨v1, rfl, o1, hb1⟩
    go_wp2
    go_ret2
    exact ⟨.slice none 0 0, rfl, by rw [HT.out]; exact Own.nil, hb1⟩
  have h0 : (badC a b != 0) = false := by simpa using hc
  have HC := Lib.hid hc
  obtain ⟨n1, n2, n3⟩ := badL_zero hc
  clear n3
  have NA := Lib.hid n1
  have NB := Lib.hid n2
  obtain ⟨t1, t2, t3⟩ := tabP_bd hc
  have HT := Lib.hid t3
  have hLp : 0 < (badL a b).length := by simp [tabP] at t2; omega
  have hLq := Lib.hid (show (tabP a b).length = (badL a b).length + 1 by simp [tabP])
  have hL97 : (badL a b).length ≤ 97 := by have := hLq.out; omega
  clear n1 n2 t3 hc t1 t2
  go_enter Try.func79, Try.ntmps79
  go_wp2_with (go_at_call 77; with_reducible refine (l16Bad_any a b _).mono ?_)
  rintro _ w1 ⟨v1, rfl, o1, hb1⟩
  obtain ⟨g, cap, rfl, p1, p2, p3, p4⟩ := o1.head hLp
  have HO1 := Lib.hid o1
  have HB1 := Lib.hid hb1
  clear o1 hb1
  go_wp2_with (go_at_call 73; with_reducible refine (l16Symbol_any _ _ _ _ (Or.inl rfl) NA.out NB.out).mono ?_)
  rintro _ w2 ⟨rfl, hb2⟩
  have HP := Lib.hid (HO1.out.step hb2)
  have HB2 := Lib.hid (HB1.out.trans (hb2.mono HB1.out.size))
  have hg2 : g < w2.heap.size := by have := hb2.size; omega
  clear hb2 HO1
  go_wp2
  go_loopw [8, 9] (fun r c wr => ∃ k : Nat, c = .int .i64 (k : Int) ∧ k ≤ (badL a b).length ∧ Own wr w2.heap.size r (tabN a b (k + 1)) ∧ Below w2.heap.size w2 wr) (fun _ c _ => (badL a b).length - (intOf c).toNat)
  case atStart => exact ⟨0, rfl, by omega, by rw [tabN_step (by have := hLq.out; omega), ← hil0]; exact Own.one (Nat.le_refl _) _, below_box _⟩
  case round =>
    obtain ⟨k, rfl, hk, hown, hbel⟩ := hrel
    have HO := Lib.hid hown
    have HB := Lib.hid hbel
    clear hown hbel
    by_cases hlt : k < (badL a b).length
    · have f1 : wr.cell? ⟨g, k, none⟩ = some (.int .i64 (el (badL a b) k)) := by rw [HB.out.cell (p := ⟨g, k, none⟩) hg2]; exact HP.out.cellAt hlt
      have HEL := Lib.hid (show el (tabP a b) (k + 1) = el (badL a b) k by simp [tabP, el])
      have HH := Lib.hid (show el (badL a b) k = 0 ∨ (2 ≤ el (badL a b) k ∧ el (badL a b) k ≤ 97) by rw [← HEL.out]; exact HT.out (k + 1) (by have := hLq.out; omega))
      go_wp2_with (go_at_call 73; with_reducible refine (l16Symbol_any _ _ _ _ HH.out NA.out NB.out).mono ?_)
      rintro _ w3 ⟨rfl, hb3⟩
      have HB3 := Lib.hid (HB.out.trans (hb3.mono HB.out.size))
      have HO3 := Lib.hid (HO.out.step hb3)
      have hsz : w2.heap.size ≤ w3.heap.size := HB3.out.size
      have HLK := Lib.hid (show (tabN a b (k + 1)).length + 1 ≤ 1099511627776 by rw [tabN_len (by have := hLq.out; omega)]; omega)
      clear hb3 f1
      go_wp2_with (at_builtin; refine append_one _ rfl _ _ rfl rfl HO3.out HLK.out hsz rfl ?_)
      intro v4 w4 h4 b4
      have HO4 := Lib.hid (show Own w4 w2.heap.size v4 (tabN a b (k + 1 + 1)) by rw [tabN_step (by have := hLq.out; omega), HEL.out]; exact h4)
      have HB4 := Lib.hid (HB3.out.trans b4)
      clear h4 b4
      go_wp2
      go_roundw
      case rel => exact ⟨k + 1, by go_num, by omega, HO4.out, HB4.out⟩
      case measure => simp [intOf]; omega
    · obtain rfl : k = (badL a b).length := by omega
      go_wp2
      go_ret2
      exact ⟨u8, by simp [HC.out], by have := HO.out.mono HB2.out.size; rw [← hLq.out, tabN_all HC.out] at this; exact this, HB2.out.trans (HB.out.mono HB2.out.size)⟩

/-- Has the conic a point? -/
def conB (a b : Int) : Bool := (badC a b == 0) && !hasL (tabL a b) (-1)
set_option maxHeartbeats 1000000 in
theorem HasConic_any (a b : Int) (w : World) :
    Calls Try.prog 35 #[.int .i64 a, .int .i64 b] w fun e w' => e = .returned (.tuple #[.bool (conB a b), .int .i64 (badC a b)]) ∧ Below w.heap.size w w' := by
  rcases Bool.eq_false_or_eq_true (badC a b == 0) with hc | hc
  · rcases Bool.eq_false_or_eq_true (hasL (tabL a b) (-1)) with hh | hh
    all_goals
      have HH := Lib.hid hh
      have HQ := Lib.hid (show conB a b = !hasL (tabL a b) (-1) by unfold conB; rw [hc]; rfl)
      clear hh
      go_enter Try.func35, Try.ntmps35
      go_wp2_with (go_at_call 80; with_reducible refine (symbolTable_any a b _).mono ?_)
      rintro _ w1 ⟨v1, rfl, o1, hb1⟩
      have HR := Lib.hid o1.reads
      have HB1 := Lib.hid hb1
      clear o1 hb1
      go_wp2_with (go_at_call 82; ((with_reducible refine (calls_bool (contains_any _ HR.out) HH.out).mono ?_); rintro e w' ⟨rfl, rfl⟩))
      go_ret2
      exact ⟨by rw [HQ.out, HH.out]; rfl, HB1.out⟩
  · have HQ := Lib.hid (show conB a b = false by unfold conB; rw [hc]; rfl)
    go_enter Try.func35, Try.ntmps35
    go_wp2_with (go_at_call 80; with_reducible refine (symbolTable_any a b _).mono ?_)
    rintro _ w1 ⟨v1, rfl, o1, hb1⟩
    have HB1 := Lib.hid hb1
    clear o1 hb1
    go_wp2
    go_ret2
    exact ⟨by rw [HQ.out]; rfl, HB1.out⟩
set_option maxHeartbeats 1000000 in
theorem sHasConic_any (a b : Int) (w : World) :
    Calls Try.prog 34 #[.int .i64 a, .int .i64 b] w fun e w' => e = .returned (.tuple #[.bool (conB a b), .int .i64 (badC a b)]) ∧ Below w.heap.size w w' := by
  rcases Bool.eq_false_or_eq_true (badC a b == 0) with hc | hc
  · rcases Bool.eq_false_or_eq_true (hasL (tabL a b) (-1)) with hh | hh
    all_goals
      have HH := Lib.hid hh
      have HQ := Lib.hid (show conB a b = !hasL (tabL a b) (-1) by unfold conB; rw [hc]; rfl)
      clear hh
      go_enter Try.func34, Try.ntmps34
      go_wp2_with (go_at_call 79; with_reducible refine (l16Table_any a b _).mono ?_)
      rintro _ w1 ⟨v1, rfl, o1, hb1⟩
      have HR := Lib.hid o1.reads
      have HB1 := Lib.hid hb1
      clear o1 hb1
      go_wp2_with (go_at_call 81; ((with_reducible refine (calls_bool (l01Has_any _ HR.out) HH.out).mono ?_); rintro e w' ⟨rfl, rfl⟩))
      go_ret2
      exact ⟨by rw [HQ.out, HH.out]; rfl, HB1.out⟩
  · have HQ := Lib.hid (show conB a b = false by unfold conB; rw [hc]; rfl)
    go_enter Try.func34, Try.ntmps34
    go_wp2_with (go_at_call 79; with_reducible refine (l16Table_any a b _).mono ?_)
    rintro _ w1 ⟨v1, rfl, o1, hb1⟩
    have HB1 := Lib.hid hb1
    clear o1 hb1
    go_wp2
    go_ret2
    exact ⟨by rw [HQ.out]; rfl, HB1.out⟩

end Go.Proofs.Ytjampkjgapkklaa
