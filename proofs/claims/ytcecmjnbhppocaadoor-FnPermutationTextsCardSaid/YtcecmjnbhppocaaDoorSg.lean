/- Contract: the reference's cutting of a string. -/
import Derived.Test.YtcecmjnbhppocaaDoorSf
namespace Go.Proofs.YtcecmjnbhppocaaDoor
open Go.RowKit
set_option linter.unusedVariables false
set_option linter.unusedSimpArgs false
set_option maxRecDepth 100000

def strs (ss : List (List UInt8)) : List Value := ss.map fun x => .string (bs x)
theorem strs_snoc (ss : List (List UInt8)) (x : List UInt8) : strs ss ++ [.string (bs x)] = strs (ss ++ [x]) := by simp [strs]
theorem strs_len (ss : List (List UInt8)) : (strs ss).length = ss.length := by simp [strs]
theorem bs_ext (l : List UInt8) (a b : Nat) : (bs l).extract a b = bs ((l.drop a).take (b - a)) := ByteArray.extract_mk l a b
/-- The k-th byte, as a number. -/
def btL (l : List UInt8) (k : Nat) : Int := ((l.getD k 0).toNat : Int)
theorem bs_get (l : List UInt8) : ∀ (n : Nat) (h : n < (bs l).size), (((bs l)[n]'h).toNat : Int) = btL l n := by
  intro n h
  have h2 : n < l.length := by rw [← bs_size]; exact h
  have h4 : l.getD n 0 = l[n]'h2 := by rw [List.getD_eq_getElem?_getD, List.getElem?_eq_getElem h2]; rfl
  rw [btL, h4]
  rfl
theorem btL_bd (l : List UInt8) (k : Nat) : 0 ≤ btL l k ∧ btL l k ≤ 255 := by
  have := (l.getD k 0).toNat_lt
  unfold btL; omega
def splN (b : UInt8) : List UInt8 → List UInt8 → List (List UInt8)
  | cur, [] => [cur]
  | cur, c :: l => if c = b then cur :: splN b [] l else splN b (cur ++ [c]) l
def splL (b : UInt8) (l : List UInt8) : List (List UInt8) := splN b [] l
theorem splN_len (b : UInt8) : ∀ (l cur : List UInt8), (splN b cur l).length ≤ l.length + 1 ∧ 1 ≤ (splN b cur l).length
  | [], cur => by simp [splN]
  | c :: l, cur => by
    rw [splN]
    split
    · have := splN_len b l []; simp; omega
    · have := splN_len b l (cur ++ [c]); simp; omega
structure SInv (b : UInt8) (l : List UInt8) (i f : Nat) (O : List (List UInt8)) : Prop where
  fi : f ≤ i
  len : O.length ≤ i
  goal : (i ≤ l.length ∧ splL b l = O ++ splN b ((l.drop f).take (i - f)) (l.drop i)) ∨ (i = l.length + 1 ∧ splL b l = O)
theorem sinv_start (b : UInt8) (l : List UInt8) : SInv b l 0 0 [] := ⟨by omega, by simp, .inl ⟨by omega, by simp [splL]⟩⟩
theorem sinv_cut {b : UInt8} {l : List UInt8} {i f : Nat} {O : List (List UInt8)} (h : SInv b l i f O) (hi : i < l.length) (hc : l[i] = b) : SInv b l (i + 1) (i + 1) (O ++ [(l.drop f).take (i - f)]) := by
  have h1 := h.len
  refine ⟨by omega, by simp; omega, .inl ⟨by omega, ?_⟩⟩
  rcases h.goal with ⟨_, h2⟩ | ⟨h2, _⟩
  · rw [h2, List.drop_eq_getElem_cons hi, splN, if_pos hc]
    simp
  · omega
theorem sinv_on {b : UInt8} {l : List UInt8} {i f : Nat} {O : List (List UInt8)} (h : SInv b l i f O) (hi : i < l.length) (hc : l[i] ≠ b) : SInv b l (i + 1) f O := by
  have h1 := h.len
  have h3 := h.fi
  refine ⟨by omega, by omega, .inl ⟨by omega, ?_⟩⟩
  rcases h.goal with ⟨_, h2⟩ | ⟨h2, _⟩
  · rw [h2, List.drop_eq_getElem_cons hi, splN, if_neg hc]
    congr 2
    rw [show i + 1 - f = (i - f) + 1 by omega, List.take_add_one]
    congr 1
    rw [List.getElem?_drop, show f + (i - f) = i by omega, List.getElem?_eq_getElem hi]
    rfl
  · omega
theorem sinv_end {b : UInt8} {l : List UInt8} {f : Nat} {O : List (List UInt8)} (h : SInv b l l.length f O) : SInv b l (l.length + 1) (l.length + 1) (O ++ [(l.drop f).take (l.length - f)]) := by
  have h1 := h.len
  refine ⟨by omega, by simp; omega, .inr ⟨rfl, ?_⟩⟩
  rcases h.goal with ⟨_, h2⟩ | ⟨h2, _⟩
  · rw [h2, List.drop_length, splN]
  · omega
theorem sinv_done {b : UInt8} {l : List UInt8} {f : Nat} {O : List (List UInt8)} (h : SInv b l (l.length + 1) f O) : O = splL b l := by
  rcases h.goal with ⟨h2, _⟩ | ⟨_, h2⟩
  · omega
  · exact h2.symm
set_option maxHeartbeats 2000000 in
theorem l01Split_any {l : List UInt8} {b : UInt8} {B : Int} (hB : (b.toNat : Int) = B) (hl : l.length ≤ 1048576) (w : World) :
    Calls Tryd.prog 22 #[.string (bs l), .int .u8 B] w fun e w' => ∃ v, e = .returned v ∧ OwnV 9 w' w.heap.size v (strs (splL b l)) ∧ Below w.heap.size w w' := by
  have BSZ := bs_size
  have BEX := bs_ext
  have BGT := bs_get l
  have HS0 := Lib.hid (sinv_start b l)
  obtain ⟨n, hn⟩ : ∃ n, l.length = n := ⟨_, rfl⟩
  have HN := Lib.hid hn
  have HL := Lib.hid (show ∀ i, i < n → 0 ≤ btL l i ∧ btL l i ≤ 255 ∧ ((l.getD i 0 = b) ↔ btL l i = B) by
    intro i hi
    refine ⟨(btL_bd _ _).1, (btL_bd _ _).2, ?_⟩
    rw [btL, ← hB]
    constructor
    · intro h; rw [h]
    · intro h; exact UInt8.toNat_inj.1 (by omega))
  have hBb : 0 ≤ B ∧ B ≤ 255 := by have := b.toNat_lt; omega
  rw [hn] at hl
  go_enter Tryd.func22, Tryd.ntmps22
  go_wp2
  go_loopw [5, 6, 7] (fun d f c wr => ∃ (i q : Nat) (O : List (List UInt8)), c = .int .i64 (i : Int) ∧ f = .int .i64 (q : Int) ∧ i ≤ n + 1 ∧ Hid (SInv b l i q O) ∧ OwnV 9 wr w.heap.size d (strs O) ∧ Below w.heap.size w wr) (fun _ _ c _ => n + 1 - (intOf c).toNat)
  case atStart => exact ⟨0, 0, [], rfl, rfl, by omega, HS0, OwnV.empty (Nat.le_refl _), below_box _⟩
  case round =>
    obtain ⟨i, q, O, rfl, rfl, hi, HI, hown, hbel⟩ := hrel
    have HO := Lib.hid hown
    have HW := Lib.hid hbel
    have hsw := hbel.size
    have hwl : (strs O).length + 1 ≤ 1099511627776 := by have := HI.out.len; rw [strs_len]; omega
    have hqi := HI.out.fi
    clear hown hbel
    by_cases hlt : i < n
    · obtain ⟨hb2, hb3, hb4⟩ := HL.out i hlt
      have hne : ¬ (i : Int) = (n : Int) := by omega
      have hgi : l.getD i 0 = l[i]'(by rw [HN.out]; exact hlt) := by rw [List.getD_eq_getElem?_getD, List.getElem?_eq_getElem (by rw [HN.out]; exact hlt)]; rfl
      rw [hgi] at hb4
      clear hgi
      by_cases hc : btL l i = B
      · have HT := Lib.hid (sinv_cut HI.out (by rw [HN.out]; exact hlt) (hb4.2 hc))
        have hg1 : ((i : Int) == (n : Int)) = false := by simpa using hne
        have hg2 : (btL l i == B) = true := by simpa using hc
        clear hb4 hc hne
        go_wp2_with (first | (at_builtin; refine append_oneV infoStr Tryd.underlying37 rfl (by omega) _ rfl _ _ rfl rfl HO.out hwl hsw rfl rfl rfl ?_))
        intro vv w5 hown5 hg5 hbel5
        rw [strs_snoc] at hown5
        have HO5 := Lib.hid hown5
        have HW5 := Lib.hid (HW.out.trans hbel5)
        clear hown5 hg5 hbel5
        go_wp2
        go_roundw
        case rel => exact ⟨i + 1, i + 1, _, by go_num, by go_num, by omega, HT, HO5.out, HW5.out⟩
        case measure => simp [intOf]; omega
      · have HT := Lib.hid (sinv_on HI.out (by rw [HN.out]; exact hlt) (fun h => hc (hb4.1 h)))
        have hg1 : ((i : Int) == (n : Int)) = false := by simpa using hne
        have hg2 : (btL l i == B) = false := by simpa using hc
        clear hb4 hc hne
        go_wp2
        go_roundw
        case rel => exact ⟨i + 1, q, _, by go_num, rfl, by omega, HT, HO.out, HW.out⟩
        case measure => simp [intOf]; omega
    · by_cases hle : i = n
      · subst hle
        have HT := Lib.hid (show SInv b l (i + 1) (i + 1) (O ++ [(l.drop q).take (i - q)]) by rw [← HN.out]; refine sinv_end ?_; rw [HN.out]; exact HI.out)
        go_wp2_with (first | (at_builtin; refine append_oneV infoStr Tryd.underlying37 rfl (by omega) _ rfl _ _ rfl rfl HO.out hwl hsw rfl rfl rfl ?_))
        intro vv w5 hown5 hg5 hbel5
        rw [strs_snoc] at hown5
        have HO5 := Lib.hid hown5
        have HW5 := Lib.hid (HW.out.trans hbel5)
        clear hown5 hg5 hbel5
        go_wp2
        go_roundw
        case rel => exact ⟨i + 1, i + 1, _, by go_num, by go_num, by omega, HT, HO5.out, HW5.out⟩
        case measure => simp [intOf]
      · obtain rfl : i = n + 1 := by omega
        have hq := sinv_done (show SInv b l (l.length + 1) q O by rw [HN.out]; exact HI.out)
        subst hq
        go_wp2
        go_ret
        exact ⟨_, rfl, HO.out, HW.out⟩

end Go.Proofs.YtcecmjnbhppocaaDoor
