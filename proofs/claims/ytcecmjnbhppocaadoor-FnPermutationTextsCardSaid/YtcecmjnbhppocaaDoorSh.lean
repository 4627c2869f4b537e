/- Contracts: the reference's reading of numbers. -/
import Derived.Test.YtcecmjnbhppocaaDoorSg
namespace Go.Proofs.YtcecmjnbhppocaaDoor
open Go.RowKit
set_option linter.unusedVariables false
set_option linter.unusedSimpArgs false
set_option maxRecDepth 100000

def numN (l : List UInt8) : Nat → Int
  | 0 => 0
  | k + 1 => 10 * numN l k + (btL l k - 48)
def digB (l : List UInt8) (k : Nat) : Bool := decide (48 ≤ btL l k) && decide (btL l k ≤ 57)
theorem numN_bd {l : List UInt8} : ∀ k, (∀ j, j < k → digB l j = true) → 0 ≤ numN l k ∧ numN l k < 10 ^ k
  | 0, _ => by simp [numN]
  | k + 1, h => by
    have ih := numN_bd k (fun j hj => h j (by omega))
    have h1 := h k (by omega)
    simp only [digB, Bool.and_eq_true, decide_eq_true_eq] at h1
    rw [numN, Int.pow_succ]
    omega
theorem numN_bd13 {l : List UInt8} {k : Nat} (h : ∀ j, j < k → digB l j = true) (hk : k ≤ 13) : 0 ≤ numN l k ∧ numN l k ≤ 9999999999999 := by
  obtain ⟨h1, h2⟩ := numN_bd k h
  have h3 : (10 : Int) ^ k ≤ 10 ^ 13 := by
    have : (10 : Nat) ^ k ≤ 10 ^ 13 := Nat.pow_le_pow_right (by decide) hk
    exact_mod_cast this
  have h4 : (10 : Int) ^ 13 = 10000000000000 := by decide
  omega
def digsB (l : List UInt8) : Bool := (List.range l.length).all (digB l)
def valP (l : List UInt8) : Int × Bool := if l.length < 1 ∨ 13 < l.length then (0, false) else if digsB l then (numN l l.length, decF 12 (numN l l.length) == l) else (0, false)
theorem valP_bd (l : List UInt8) : 0 ≤ (valP l).1 ∧ (valP l).1 ≤ 9999999999999 := by
  unfold valP
  split
  · simp
  · split
    · rename_i h1 h2
      simp only [digsB, List.all_eq_true, List.mem_range] at h2
      exact numN_bd13 h2 (by omega)
    · simp
set_option maxHeartbeats 2000000 in
theorem l01Value_any (l : List UInt8) (hl : l.length ≤ 1048576) (w : World) :
    Calls Tryd.prog 23 #[.string (bs l)] w fun e w' => e = .returned (.tuple #[.int .i64 (valP l).1, .bool (valP l).2]) ∧ Below w.heap.size w w' := by
  have BSZ := bs_size
  have BGT := bs_get l
  by_cases h0 : l.length < 1 ∨ 13 < l.length
  · have HV := Lib.hid (show valP l = (0, false) by unfold valP; rw [if_pos h0])
    rcases h0 with h0 | h0
    · have h0i : (l.length : Int) < 1 := by omega
      go_enter Tryd.func23, Tryd.ntmps23
      go_wp2
      go_ret2
      exact ⟨by rw [HV.out]; rfl, Below.refl _ _⟩
    · have h0i : (13 : Int) < (l.length : Int) := by omega
      have h0j : ¬ (l.length : Int) < 1 := by omega
      go_enter Tryd.func23, Tryd.ntmps23
      go_wp2
      go_ret2
      exact ⟨by rw [HV.out]; rfl, Below.refl _ _⟩
  · obtain ⟨n, hn⟩ : ∃ n, l.length = n := ⟨_, rfl⟩
    have HN := Lib.hid hn
    have HV := Lib.hid (show valP l = if digsB l then (numN l l.length, decF 12 (numN l l.length) == l) else (0, false) by unfold valP; rw [if_neg h0])
    rw [hn] at h0 HV
    have h0j : ¬ (n : Int) < 1 := by omega
    have h0k : ¬ (13 : Int) < (n : Int) := by omega
    have hn13 : n ≤ 13 := by omega
    go_enter Tryd.func23, Tryd.ntmps23
    go_wp2
    go_loopw [4, 5] (fun m c wr => ∃ i : Nat, c = .int .i64 (i : Int) ∧ m = .int .i64 (numN l i) ∧ i ≤ n ∧ Hid (∀ j, j < i → digB l j = true) ∧ wr = w) (fun _ c _ => n - (intOf c).toNat)
    case atStart => exact ⟨0, rfl, rfl, by omega, Lib.hid (fun j hj => by omega), rfl⟩
    case round =>
      obtain ⟨i, rfl, rfl, hi, HD, rfl⟩ := hrel
      obtain ⟨m0, m1⟩ := numN_bd13 HD.out (by omega)
      by_cases hlt : i < n
      · obtain ⟨b0, b1⟩ := btL_bd l i
        have HX := Lib.hid (show numN l (i + 1) = 10 * numN l i + (btL l i - 48) from rfl)
        have HXB := Lib.hid (show digB l i = (decide (48 ≤ btL l i) && decide (btL l i ≤ 57)) from rfl)
        by_cases h48 : btL l i < 48
        · have HF := Lib.hid (show digsB l = false by
            rw [digsB, List.all_eq_false]
            exact ⟨i, List.mem_range.2 (by rw [HN.out]; exact hlt), by rw [HXB.out]; simp; omega⟩)
          go_wp2
          go_ret2
          exact ⟨by rw [HV.out, HF.out]; rfl, Below.refl _ _⟩
        · by_cases h57 : 57 < btL l i
          · have HF := Lib.hid (show digsB l = false by
              rw [digsB, List.all_eq_false]
              exact ⟨i, List.mem_range.2 (by rw [HN.out]; exact hlt), by rw [HXB.out]; simp; omega⟩)
            go_wp2
            go_ret2
            exact ⟨by rw [HV.out, HF.out]; rfl, Below.refl _ _⟩
          · have HT := Lib.hid (show ∀ j, j < i + 1 → digB l j = true by
              intro j hj
              by_cases e : j = i
              · subst e; rw [HXB.out]; simp; omega
              · exact HD.out j (by omega))
            obtain ⟨m2, m3⟩ := numN_bd13 HT.out (by omega)
            rw [HX.out] at m2 m3
            go_wp2
            go_roundw
            case rel => exact ⟨i + 1, by go_num, by rw [HX.out], by omega, HT, by first | trivial | rfl⟩
            case measure => simp [intOf]; omega
      · obtain rfl : i = n := by omega
        have HF := Lib.hid (show digsB l = true by
          rw [digsB, List.all_eq_true]
          intro j hj
          exact HD.out j (by have := List.mem_range.1 hj; have := HN.out; omega))
        have hcmp : ((bs (decF 12 (numN l i))).toList == (bs l).toList) = (decF 12 (numN l i) == l) := by rw [bs_list, bs_list]
        have hp13 : numN l i < (10 : Int) ^ (12 + 1) := by
          have : (10 : Int) ^ (12 + 1) = 10000000000000 := by decide
          rw [this]; omega
        have HDC := Lib.hid (fun w => l01Dec_any 12 (n := numN l i) ⟨m0, hp13⟩ m1 (by omega) w)
        clear hp13
        generalize numN l i = M at *
        go_wp2_with (go_at_call 37; with_reducible refine (HDC.out _).mono ?_)
        rintro _ w1 ⟨rfl, hb1⟩
        go_wp2
        go_ret2
        exact ⟨by rw [HV.out, HF.out]; rfl, hb1⟩

def sgnP (l : List UInt8) : Int × Bool := if 0 < l.length ∧ btL l 0 = 45 then (-(valP (l.tail)).1, (valP (l.tail)).2 && decide (0 < (valP (l.tail)).1)) else valP l
theorem sgnP_bd (l : List UInt8) : -9999999999999 ≤ (sgnP l).1 ∧ (sgnP l).1 ≤ 9999999999999 := by
  have h1 := valP_bd l
  have h2 := valP_bd (l.tail)
  unfold sgnP
  split
  · show -9999999999999 ≤ -(valP (l.tail)).1 ∧ -(valP (l.tail)).1 ≤ 9999999999999
    omega
  · omega
set_option maxHeartbeats 2000000 in
theorem l01Signed_any (l : List UInt8) (hl : l.length ≤ 1048576) (w : World) :
    Calls Tryd.prog 45 #[.string (bs l)] w fun e w' => e = .returned (.tuple #[.int .i64 (sgnP l).1, .bool (sgnP l).2]) ∧ Below w.heap.size w w' := by
  have BSZ := bs_size
  have BGT := bs_get l
  have BE1 : (bs l).extract 1 l.length = bs (l.tail) := by rw [bs_ext, List.take_of_length_le (by simp)]; simp
  have HV := Lib.hid (fun w => l01Value_any l hl w)
  have HV1 := Lib.hid (fun w => l01Value_any (l.tail) (by simp; omega) w)
  obtain ⟨v0, v1⟩ := valP_bd (l.tail)
  obtain ⟨b0, b1⟩ := btL_bd l 0
  by_cases h0 : 0 < l.length
  · have h0i : (0 : Int) < (l.length : Int) := by omega
    by_cases h45 : btL l 0 = 45
    · have h45b : (btL l 0 == 45) = true := by simpa using h45
      have HS := Lib.hid (show sgnP l = (-(valP (l.tail)).1, (valP (l.tail)).2 && decide (0 < (valP (l.tail)).1)) by unfold sgnP; rw [if_pos ⟨h0, h45⟩])
      have h1l : (1 : Int) ≤ (l.length : Int) := by omega
      obtain ⟨X, hX⟩ : ∃ X, (valP (l.tail)).1 = X := ⟨_, rfl⟩
      obtain ⟨Y, hY⟩ : ∃ Y, (valP (l.tail)).2 = Y := ⟨_, rfl⟩
      rw [hX, hY] at HV1 HS
      rw [hX] at v0 v1
      clear hX hY
      go_enter Tryd.func45, Tryd.ntmps45
      go_wp2_with (go_at_call 23; with_reducible refine (HV1.out _).mono ?_)
      rintro _ w1 ⟨rfl, hb1⟩
      cases Y <;> go_wp2 <;> go_ret2
      all_goals exact ⟨by rw [HS.out]; simp, hb1⟩
    · have h45b : (btL l 0 == 45) = false := by simpa using h45
      have HS := Lib.hid (show sgnP l = valP l by unfold sgnP; rw [if_neg (fun h => h45 h.2)])
      go_enter Tryd.func45, Tryd.ntmps45
      go_wp2_with (go_at_call 23; with_reducible refine (HV.out _).mono ?_)
      rintro _ w1 ⟨rfl, hb1⟩
      go_wp2
      go_ret2
      exact ⟨by rw [HS.out]; rfl, hb1⟩
  · obtain rfl : l = [] := List.eq_nil_of_length_eq_zero (by omega)
    have hz : (bs []).size = 0 := rfl
    clear BGT BE1 BSZ
    have HS := Lib.hid (show sgnP [] = valP [] by unfold sgnP; rw [if_neg (fun h => h0 h.1)])
    go_enter Tryd.func45, Tryd.ntmps45
    go_wp2_with (go_at_call 23; with_reducible refine (HV.out _).mono ?_)
    rintro _ w1 ⟨rfl, hb1⟩
    go_wp2
    go_ret2
    exact ⟨by rw [HS.out]; rfl, hb1⟩

def sgs (ws : List (List UInt8)) : List Int := ws.map fun x => (sgnP x).1
theorem sgs_len (ws : List (List UInt8)) : (sgs ws).length = ws.length := by simp [sgs]
def numsP (ws : List (List UInt8)) : List Int × Bool := if ws.all (fun x => (sgnP x).2) then (sgs ws, true) else ([], false)
def rowS (ws : List (List UInt8)) (i : Nat) : List UInt8 := ws.getD i []
theorem rowS_get {ws : List (List UInt8)} {i : Nat} (h : i < ws.length) : ws[i]? = some (rowS ws i) := by
  rw [rowS, List.getD_eq_getElem?_getD, List.getElem?_eq_getElem h]; rfl
theorem rowS_mem {ws : List (List UInt8)} {i : Nat} (h : i < ws.length) : rowS ws i ∈ ws := List.mem_of_getElem? (rowS_get h)
theorem strs_get {ws : List (List UInt8)} {i : Nat} (h : i < ws.length) : (strs ws)[i]? = some (.string (bs (rowS ws i))) := by
  rw [strs, List.getElem?_map, rowS_get h]; rfl
theorem take_row {ws : List (List UInt8)} {i : Nat} (h : i < ws.length) : ws.take (i + 1) = ws.take i ++ [rowS ws i] := by
  rw [List.take_add_one, rowS_get h]; rfl
theorem sgs_next {ws : List (List UInt8)} {i : Nat} (h : i < ws.length) : (sgs ws).take (i + 1) = (sgs ws).take i ++ [(sgnP (rowS ws i)).1] := by
  rw [List.take_add_one]
  congr 1
  rw [sgs, List.getElem?_map, rowS_get h]
  rfl
set_option maxHeartbeats 2000000 in
theorem l01Numbers_any {v : Value} {lo : Nat} {ws : List (List UInt8)} {w : World} (h : OwnV 9 w lo v (strs ws)) (hl : ws.length ≤ 1048577) (hs : ∀ x ∈ ws, x.length ≤ 1048576) (h1 : 1 ≤ ws.length) :
    Calls Tryd.prog 26 #[v] w fun e w' => ∃ u, e = .returned (.tuple #[u, .bool (numsP ws).2]) ∧ Own w' w.heap.size u (numsP ws).1 ∧ Below w.heap.size w w' := by
  have HO := Lib.hid h
  obtain ⟨g, cap, rfl, hg1, hg2, hcap, hmax⟩ := h.head (by rw [strs_len]; exact h1)
  have HC := Lib.hid (fun i (hi : i < ws.length) => HO.out.cellAt (strs_get hi))
  have hcap2 : cap ≤ 9223372036854775807 := by unfold maxLen at hmax; omega
  rw [strs_len] at hcap ⊢
  have HSZ := Lib.hid hs
  obtain ⟨n, hn⟩ : ∃ n, ws.length = n := ⟨_, rfl⟩
  have HN := Lib.hid hn
  rw [hn] at hcap HC hl h1 ⊢
  clear h hs hn
  go_enter Tryd.func26, Tryd.ntmps26
  go_wp2
  go_loopw [4, 5] (fun d c wr => ∃ i : Nat, c = .int .i64 (i : Int) ∧ i ≤ n ∧ Hid (∀ j, j < i → (sgnP (rowS ws j)).2 = true) ∧ Own wr w.heap.size d ((sgs ws).take i) ∧ Below w.heap.size w wr) (fun _ c _ => n - (intOf c).toNat)
  case atStart => exact ⟨0, rfl, by omega, Lib.hid (fun j hj => by omega), Own.empty (Nat.le_refl _), below_box _⟩
  case round =>
    obtain ⟨i, rfl, hi, HD, hown, hbel⟩ := hrel
    have HO1 := Lib.hid hown
    have HW := Lib.hid hbel
    have hsw := hbel.size
    clear hown hbel
    by_cases hlt : i < n
    · have f1 : wr.cell? ⟨g, i, none⟩ = some (.string (bs (rowS ws i))) := (HW.out.cell (p := ⟨g, i, none⟩) hg2).trans (HC.out i hlt)
      have HS := Lib.hid (fun w => l01Signed_any (rowS ws i) (HSZ.out _ (rowS_mem (by rw [HN.out]; exact hlt))) w)
      have HT := Lib.hid (show (sgs ws).take (i + 1) = (sgs ws).take i ++ [(sgnP (rowS ws i)).1] from sgs_next (by rw [HN.out]; exact hlt))
      have hwl : ((sgs ws).take i).length + 1 ≤ 1099511627776 := by rw [List.length_take]; omega
      rcases Bool.eq_false_or_eq_true (sgnP (rowS ws i)).2 with hk | hk
      · have HD1 := Lib.hid (show ∀ j, j < i + 1 → (sgnP (rowS ws j)).2 = true by
          intro j hj
          by_cases e : j = i
          · subst e; exact hk
          · exact HD.out j (by omega))
        rw [hk] at HS
        clear hk
        generalize (sgnP (rowS ws i)).1 = X at *
        go_wp2_with (go_at_call 45; with_reducible refine (HS.out _).mono ?_)
        rintro _ w1 ⟨rfl, hb1⟩
        have hsz1 := hb1.size
        have HO2 := Lib.hid (HO1.out.step hb1)
        have HW2 := Lib.hid (HW.out.trans (hb1.mono hsw))
        clear hb1
        have hsw1 : w.heap.size ≤ w1.heap.size := HW2.out.size
        go_wp2_with (at_builtin; refine append_oneG _ rfl _ _ rfl rfl HO2.out hwl hsw1 rfl rfl ?_)
        intro vv w5 hown5 hg5 hbel5
        rw [← HT.out] at hown5
        have HO5 := Lib.hid hown5
        have HW5 := Lib.hid (HW2.out.trans hbel5)
        clear hown5 hg5 hbel5
        go_wp2
        go_roundw
        case rel => exact ⟨i + 1, by go_num, by omega, HD1, HO5.out, HW5.out⟩
        case measure => simp [intOf]; omega
      · have HF := Lib.hid (show numsP ws = ([], false) by
          unfold numsP
          rw [if_neg]
          rw [Bool.not_eq_true, List.all_eq_false]
          exact ⟨_, rowS_mem (by rw [HN.out]; exact hlt), by rw [hk]; simp⟩)
        rw [hk] at HS
        clear hk
        generalize (sgnP (rowS ws i)).1 = X at *
        go_wp2_with (go_at_call 45; with_reducible refine (HS.out _).mono ?_)
        rintro _ w1 ⟨rfl, hb1⟩
        go_wp2
        go_ret2
        exact ⟨.slice none 0 0, by rw [HF.out]; rfl, by rw [HF.out]; exact Own.nil, HW.out.trans (hb1.mono hsw)⟩
    · obtain rfl : i = n := by omega
      have HF := Lib.hid (show numsP ws = (sgs ws, true) by
        unfold numsP
        rw [if_pos]
        rw [List.all_eq_true]
        intro x hx
        obtain ⟨j, hj, e⟩ := List.getElem_of_mem hx
        have h1 := HD.out j (by rw [← HN.out]; exact hj)
        have h2 := rowS_get hj
        rw [List.getElem?_eq_getElem hj, e] at h2
        rw [Option.some.inj h2]; exact h1)
      have hfull : (sgs ws).take i = sgs ws := List.take_of_length_le (by rw [sgs_len, HN.out]; exact Nat.le_refl _)
      rw [hfull] at HO1
      go_wp2
      go_ret2
      exact ⟨_, by rw [HF.out]; rfl, by rw [HF.out]; exact HO1.out, HW.out⟩
theorem splN_rows (b : UInt8) : ∀ (l cur : List UInt8), ∀ x ∈ splN b cur l, x.length ≤ cur.length + l.length
  | [], cur, x, hx => by
    simp [splN] at hx
    subst hx; simp
  | c :: l, cur, x, hx => by
    rw [splN] at hx
    split at hx
    · rcases List.mem_cons.1 hx with rfl | hx
      · simp
      · have := splN_rows b l [] x hx; simp at this ⊢; omega
    · have := splN_rows b l (cur ++ [c]) x hx; simp at this ⊢; omega
theorem splL_rows {b : UInt8} {l : List UInt8} {x : List UInt8} (h : x ∈ splL b l) : x.length ≤ l.length := by have := splN_rows b l [] x h; simpa using this

/-! ### the reference's reading, plain -/
/-- One cycle laid into the list. -/
def apN (n : Int) (P out : List Int) : Nat → List Int
  | 0 => out
  | k + 1 => if 0 ≤ el P k ∧ el P k ≤ n - 1 then (apN n P out k).set (el P k).toNat (el P ((k + 1) % P.length)) else apN n P out k
theorem apN_len (n : Int) (P out : List Int) : ∀ k, (apN n P out k).length = out.length
  | 0 => rfl
  | k + 1 => by
    rw [apN]
    split
    · rw [List.length_set, apN_len n P out k]
    · exact apN_len n P out k
def ptsP (t : List UInt8) : List Int × Bool := numsP (splL 32 (t.take (t.length - 1)))
def stP (n : Int) (out : List Int) (t : List UInt8) : List Int := if t.length < 2 then out else if (ptsP t).2 then apN n (ptsP t).1 out (ptsP t).1.length else out
theorem stP_len (n : Int) (out : List Int) (t : List UInt8) : (stP n out t).length = out.length := by
  unfold stP
  split
  · rfl
  · split
    · exact apN_len _ _ _ _
    · rfl
/-- The first k + 1 pieces, the first left out. -/
def ouN (n : Nat) (ts : List (List UInt8)) : Nat → List Int
  | 0 => seqL 0 n
  | k + 1 => stP n (ouN n ts k) (rowS ts (k + 1))
theorem ouN_len (n : Nat) (ts : List (List UInt8)) : ∀ k, (ouN n ts k).length = n
  | 0 => seq_len _ _
  | k + 1 => by rw [ouN, stP_len, ouN_len n ts k]
def ouP (l : List UInt8) : List Int := ouN (valP (rowS (splL 58 l) 0)).1.toNat (splL 40 (rowS (splL 58 l) 1)) ((splL 40 (rowS (splL 58 l) 1)).length - 1)
def okP (l : List UInt8) : Bool := (valP (rowS (splL 58 l) 0)).2 && inB (valP (rowS (splL 58 l) 0)).1 1 6 && (splL 58 l).length == 2
def rdO (l : List UInt8) : List Int × Int := if okP l && permB (ouP l) && txtL (ouP l) == l then (ouP l, 0) else ([], 6)

end Go.Proofs.YtcecmjnbhppocaaDoor
