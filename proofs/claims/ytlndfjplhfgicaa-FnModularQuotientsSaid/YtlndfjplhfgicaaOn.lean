/- Contracts: IsSquareFree and PowerOfX. -/
import Derived.Test.YtlndfjplhfgicaaOm
namespace Go.Proofs.Ytlndfjplhfgicaa
open Go.RowKit
set_option linter.unusedVariables false
set_option linter.unusedSimpArgs false

def sqfB (p : Int) (f : List Int) : Bool := modlB p f && decide ((comL p f (derP p f)).length = 1)
def sqfC (p : Int) (f : List Int) : Int := if modlB p f then 0 else 1
theorem len_one {n : Nat} : ((n : Int) == 1) = decide (n = 1) := by
  rw [Bool.eq_iff_iff]; simp; omega
theorem derP_facts {p : Int} {f : List Int} (hp : 2 ≤ p ∧ p ≤ 97) (hl : f.length ≤ 9) : (derP p f).length ≤ 9 ∧ In p (derP p f) ∧ Tidy (derP p f) ∧ (derL f).length ≤ 9 := by
  have h1 := redL_len p (derL f)
  have h2 := derL_len f
  exact ⟨by unfold derP; omega, redL_in (by omega) _, trimL_tidy _, by omega⟩
theorem com_nil (p : Int) : comL p [] (derP p []) = [] := by
  have : derP p [] = [] := by simp [derP, derL, redL, trimL, trimN]
  rw [this, comL]
  simp [comG, monL]
set_option maxHeartbeats 2000000 in
theorem IsSquareFree_any {p : Int} {v : Value} {f : List Int} {w : World} (h : Reads w v f) :
    Calls Try.prog 43 #[.int .i64 p, v] w fun e w' => e = .returned (.tuple #[.bool (sqfB p f), .int .i64 (sqfC p f)]) ∧ Below w.heap.size w w' := by
  have HA := Lib.hid h
  clear h
  rcases Bool.eq_false_or_eq_true (modlB p f) with hp | hp
  · have HP := Lib.hid hp
    obtain ⟨p1, p2, ps, l1, i1⟩ := modl_in hp
    obtain ⟨d1, d2, d3, d4⟩ := derP_facts (f := f) ⟨p1, p2⟩ l1
    have HD := Lib.hid (derL_in p2 i1)
    have HI := Lib.hid i1
    have HD2 := Lib.hid d2
    have HD3 := Lib.hid d3
    clear hp d2 d3 i1
    go_enter Try.func43, Try.ntmps43
    go_wp2_with (go_at_call 56; with_reducible refine (calls_bool (IsModular_any HA.out) HP.out).mono ?_)
    rintro _ w1 ⟨rfl, hb1⟩
    have HB1 := Lib.hid hb1
    clear hb1
    go_wp2_with (go_at_call 118; with_reducible refine (derivative_any (HA.out.step HB1.out) HD.out ⟨by omega, by omega⟩ (by omega)).mono ?_)
    rintro _ w2 ⟨v2, rfl, o2, hb2⟩
    have HB2 := Lib.hid (HB1.out.trans (hb2.mono HB1.out.size))
    go_wp2_with (go_at_call 117; with_reducible refine (reduce_any o2.reads ⟨by omega, by omega⟩ (by omega)).mono ?_)
    rintro _ w3 ⟨v3, rfl, o3, hb3⟩
    have HB3 := Lib.hid (HB2.out.trans (hb3.mono HB2.out.size))
    have HR3 := Lib.hid (show Reads w3 v3 (derP p f) from o3.reads)
    go_wp2_with (go_at_call 114; with_reducible refine (common_any (HA.out.step HB3.out) HR3.out HI.out HD2.out ps (by omega) (by omega) HD3.out).mono ?_)
    rintro _ w4 ⟨v4, rfl, o4, hb4⟩
    obtain ⟨a4, c4, rfl, _, _⟩ := reads_nil_eq o4.reads
    go_wp2
    go_ret2
    exact ⟨by simp [sqfB, sqfC, HP.out, len_one], HB3.out.trans (hb4.mono HB3.out.size)⟩
  · have HP := Lib.hid hp
    clear hp
    go_enter Try.func43, Try.ntmps43
    go_wp2_with (go_at_call 56; with_reducible refine (calls_bool (IsModular_any HA.out) HP.out).mono ?_)
    rintro _ w1 ⟨rfl, hb1⟩
    go_wp2
    go_ret2
    exact ⟨by simp [sqfB, sqfC, HP.out], hb1⟩
theorem l08Derivative_any {p : Int} {v : Value} {f : List Int} {w : World} (h : Reads w v f) (hd : Bd 97 f) (hp : 2 ≤ p ∧ p ≤ 97) (hl : f.length ≤ 900) :
    Calls Try.prog 119 #[.int .i64 p, v] w (RetInts (derP p f) w) := by
  have HA := Lib.hid h
  have hl2 := derL_len f
  clear h
  go_enter Try.func119, Try.ntmps119
  go_wp2_with (go_at_call 170; with_reducible refine (l06Derivative_any HA.out hd ⟨by omega, by omega⟩ hl).mono ?_)
  rintro _ w2 ⟨v2, rfl, o2, hb2⟩
  go_wp2_with (go_at_call 127; with_reducible refine (l08Reduce_any o2.reads ⟨by omega, by omega⟩ (by omega)).mono ?_)
  rintro _ w3 ⟨v3, rfl, o3, hb3⟩
  go_wp2
  go_ret
  exact ⟨v3, rfl, o3.mono hb2.size, hb2.trans (hb3.mono hb2.size)⟩
set_option maxHeartbeats 2000000 in
theorem sIsSquareFree_any {p : Int} {v : Value} {f : List Int} {w : World} (h : Reads w v f) :
    Calls Try.prog 44 #[.int .i64 p, v] w fun e w' => e = .returned (.tuple #[.bool (sqfB p f), .int .i64 (sqfC p f)]) ∧ Below w.heap.size w w' := by
  obtain ⟨a, cap, rfl, k1, k2⟩ := reads_nil_eq h
  obtain ⟨n, hn⟩ : ∃ n, f.length = n := ⟨_, rfl⟩
  rw [hn] at h k1 ⊢
  have HA := Lib.hid h
  have HN := Lib.hid hn
  clear h k2 hn
  rcases Bool.eq_false_or_eq_true (modlB p f) with hp | hp
  · have HP := Lib.hid hp
    obtain ⟨p1, p2, ps, l1, i1⟩ := modl_in hp
    obtain ⟨d1, d2, d3, d4⟩ := derP_facts (f := f) ⟨p1, p2⟩ l1
    have HD := Lib.hid (derL_in p2 i1)
    have HI := Lib.hid i1
    have HD2 := Lib.hid d2
    have HD3 := Lib.hid d3
    have HL1 := Lib.hid l1
    clear hp d2 d3 i1 l1
    by_cases h0 : n = 0
    · have hf : f = [] := List.length_eq_zero_iff.1 (by rw [HN.out]; exact h0)
      have HF := Lib.hid hf
      subst h0
      clear hf
      go_enter Try.func44, Try.ntmps44
      go_wp2_with (go_at_call 57; ((with_reducible refine (calls_bool (sIsModular_any HA.out) HP.out).mono ?_); rintro e w' ⟨rfl, rfl⟩))
      go_ret2
      exact ⟨by simp [sqfB, sqfC, HF.out, com_nil] ; (have := HP.out; rw [HF.out] at this; exact this), Below.refl _ _⟩
    · have hn1 : 0 < n := by omega
      go_enter Try.func44, Try.ntmps44
      go_wp2_with (first | (go_at_call 57; ((with_reducible refine (calls_bool (sIsModular_any HA.out) HP.out).mono ?_); rintro e w' ⟨rfl, rfl⟩)) | (go_at_call 119; with_reducible refine (l08Derivative_any HA.out HD.out ⟨p1, p2⟩ (by have := HL1.out; omega)).mono ?_))
      rintro _ w3 ⟨v3, rfl, o3, hb3⟩
      go_wp2_with (go_at_call 115; with_reducible refine (l08Common_any (HA.out.step hb3) o3.reads HI.out HD2.out ps (by have := HL1.out; omega) (by omega) HD3.out).mono ?_)
      rintro _ w4 ⟨v4, rfl, o4, hb4⟩
      obtain ⟨a4, c4, rfl, _, _⟩ := reads_nil_eq o4.reads
      go_wp2
      go_ret2
      exact ⟨by simp [sqfB, sqfC, HP.out, len_one], hb3.trans (hb4.mono hb3.size)⟩
  · have HP := Lib.hid hp
    clear hp
    go_enter Try.func44, Try.ntmps44
    go_wp2_with (go_at_call 57; ((with_reducible refine (calls_bool (sIsModular_any HA.out) HP.out).mono ?_); rintro e w' ⟨rfl, rfl⟩))
    go_ret2
    exact ⟨by simp [sqfB, sqfC, HP.out], Below.refl _ _⟩

/-! ### powers of x -/
def pxC (p e : Int) (f : List Int) : Int := if modlB p f then if inB e 0 1000000000000 then if f.length = 0 then 5 else 0 else 2 else 1
def pxL (p e : Int) (f : List Int) : List Int := if pxC p e f = 0 then powL p [0, 1] e f else []
theorem reads_two (w : World) (x y : Int) : Reads (w.alloc (.cells #[.int .i64 x, .int .i64 y] 2)) (.slice (some ⟨w.heap.size, 0, none⟩) 2 2) [x, y] := by
  refine ⟨by simp, _, 2, rfl, by simp, by simp [maxLen], fun _ => ⟨_, _, rfl, by simp, fun i hi => ?_⟩⟩
  have : i = 0 ∨ i = 1 := by simp at hi; omega
  rcases this with rfl | rfl <;> simp [el]
theorem in_x {p : Int} (hp : 2 ≤ p) : In p [0, 1] := In.of (by omega) (by intro y hy; simp at hy; omega)
set_option maxHeartbeats 2000000 in
theorem PowerOfX_any {p e : Int} {v : Value} {f : List Int} {w : World} (h : Reads w v f) :
    Calls Try.prog 62 #[.int .i64 p, .int .i64 e, v] w (RetIC (pxL p e f) (pxC p e f) w) := by
  obtain ⟨a, cap, rfl, k1, k2⟩ := reads_nil_eq h
  obtain ⟨n, hn⟩ : ∃ n, f.length = n := ⟨_, rfl⟩
  rw [hn] at h k1 ⊢
  have HA := Lib.hid h
  have HN := Lib.hid hn
  clear h k2 hn
  rcases Bool.eq_false_or_eq_true (modlB p f) with hp | hp
  · have HP := Lib.hid hp
    rcases Bool.eq_false_or_eq_true (inB e 0 1000000000000) with he | he
    · have HE := Lib.hid he
      by_cases h0 : n = 0
      · have HC := Lib.hid (show pxC p e f = 5 by rw [pxC, if_pos HP.out, if_pos HE.out, if_pos (by rw [HN.out]; exact h0)])
        subst h0
        clear hp he
        go_enter Try.func62, Try.ntmps62
        go_wp2_with (go_at_call 56; with_reducible refine (calls_bool (IsModular_any HA.out) HP.out).mono ?_)
        rintro _ w1 ⟨rfl, hb1⟩
        go_wp2_with (go_at_call 91; ((with_reducible refine (calls_bool (within_any _ _ _ _) HE.out).mono ?_); rintro e w' ⟨rfl, rfl⟩))
        go_ret2
        exact ⟨.slice none 0 0, by simp [HC.out], by simpa [pxL, HC.out] using Own.nil, hb1⟩
      · have HC := Lib.hid (show pxC p e f = 0 by rw [pxC, if_pos HP.out, if_pos HE.out, if_neg (by rw [HN.out]; exact h0)])
        have hb : ((n : Int) == 0) = false := by simp; omega
        obtain ⟨p1, p2, ps, l1, i1⟩ := modl_in hp
        have ht := modl_tidy hp
        have e1 := inB_iff.1 he
        have HT := Lib.hid ht
        have HL := Lib.hid l1
        clear hp he ht l1
        go_enter Try.func62, Try.ntmps62
        go_wp2_with (go_at_call 56; with_reducible refine (calls_bool (IsModular_any HA.out) HP.out).mono ?_)
        rintro _ w1 ⟨rfl, hb1⟩
        have HB1 := Lib.hid hb1
        clear hb1
        go_wp2_with (first | (go_at_call 91; ((with_reducible refine (calls_bool (within_any _ _ _ _) HE.out).mono ?_); rintro e w' ⟨rfl, rfl⟩)) | (go_at_call 132; with_reducible refine (powerBy_any (reads_two w1 0 1) ((HA.out.step HB1.out).step (below_box _)) (in_x p1) i1 ps (by simp) (by rw [HN.out]; omega) HL.out HT.out e1).mono ?_))
        rintro _ w2 ⟨v2, rfl, o2, hb2⟩
        go_wp2
        go_ret2
        exact ⟨v2, by simp [HC.out], by simpa [pxL, HC.out] using o2.mono (by have := HB1.out.size; simp; omega), HB1.out.trans (((below_box _).trans (hb2.mono (by simp))).mono HB1.out.size)⟩
    · have HE := Lib.hid he
      have HC := Lib.hid (show pxC p e f = 2 by rw [pxC, if_pos HP.out, if_neg (by rw [HE.out]; simp)])
      clear hp he
      go_enter Try.func62, Try.ntmps62
      go_wp2_with (go_at_call 56; with_reducible refine (calls_bool (IsModular_any HA.out) HP.out).mono ?_)
      rintro _ w1 ⟨rfl, hb1⟩
      go_wp2_with (go_at_call 91; ((with_reducible refine (calls_bool (within_any _ _ _ _) HE.out).mono ?_); rintro e w' ⟨rfl, rfl⟩))
      go_ret2
      exact ⟨.slice none 0 0, by simp [HC.out], by simpa [pxL, HC.out] using Own.nil, hb1⟩
  · have HP := Lib.hid hp
    have HC := Lib.hid (show pxC p e f = 1 by rw [pxC, if_neg (by rw [HP.out]; simp)])
    clear hp
    go_enter Try.func62, Try.ntmps62
    go_wp2_with (go_at_call 56; with_reducible refine (calls_bool (IsModular_any HA.out) HP.out).mono ?_)
    rintro _ w1 ⟨rfl, hb1⟩
    go_wp2
    go_ret2
    exact ⟨.slice none 0 0, by simp [HC.out], by simpa [pxL, HC.out] using Own.nil, hb1⟩
set_option maxHeartbeats 2000000 in
theorem sPowerOfX_any {p e : Int} {v : Value} {f : List Int} {w : World} (h : Reads w v f) :
    Calls Try.prog 63 #[.int .i64 p, .int .i64 e, v] w (RetIC (pxL p e f) (pxC p e f) w) := by
  have HA := Lib.hid h
  clear h
  rcases Bool.eq_false_or_eq_true (modlB p f) with hp | hp
  · have HP := Lib.hid hp
    rcases Bool.eq_false_or_eq_true (inB e 0 1000000000000) with he | he
    · have HE := Lib.hid he
      by_cases h0 : f.length = 0
      · have HC := Lib.hid (show pxC p e f = 5 by rw [pxC, if_pos HP.out, if_pos HE.out, if_pos h0])
        have HT := Lib.hid (show twoC p f f = 5 by rw [twoC, if_pos HP.out, if_pos HP.out, if_pos h0])
        clear hp he h0
        go_enter Try.func63, Try.ntmps63
        go_wp2_with (first | (go_at_call 121; ((with_reducible refine (calls_int (l08Two_any HA.out HA.out) HT.out).mono ?_); rintro e w' ⟨rfl, rfl⟩)) | (go_at_call 74; ((with_reducible refine (calls_bool (l01In_any _ _ _ _) HE.out).mono ?_); rintro e w' ⟨rfl, rfl⟩)))
        go_ret2
        exact ⟨.slice none 0 0, by simp [HC.out], by simpa [pxL, HC.out] using Own.nil, Below.refl _ _⟩
      · have HC := Lib.hid (show pxC p e f = 0 by rw [pxC, if_pos HP.out, if_pos HE.out, if_neg h0])
        have HT0 := Lib.hid (show twoC p f f = 0 by rw [twoC, if_pos HP.out, if_pos HP.out, if_neg h0])
        obtain ⟨p1, p2, ps, l1, i1⟩ := modl_in hp
        have ht := modl_tidy hp
        have e1 := inB_iff.1 he
        have HT := Lib.hid ht
        have HL := Lib.hid l1
        have HL0 := Lib.hid (show 0 < f.length by omega)
        clear hp he ht l1 h0
        go_enter Try.func63, Try.ntmps63
        go_wp2_with (first | (go_at_call 121; ((with_reducible refine (calls_int (l08Two_any HA.out HA.out) HT0.out).mono ?_); rintro e w' ⟨rfl, rfl⟩)) | (go_at_call 74; ((with_reducible refine (calls_bool (l01In_any _ _ _ _) HE.out).mono ?_); rintro e w' ⟨rfl, rfl⟩)) | (go_at_call 133; with_reducible refine (l08Power_any (reads_two w 0 1) (HA.out.step (below_box _)) (in_x p1) i1 ps (by simp) HL0.out HL.out HT.out e1).mono ?_))
        rintro _ w2 ⟨v2, rfl, o2, hb2⟩
        go_wp2
        go_ret2
        exact ⟨v2, by simp [HC.out], by simpa [pxL, HC.out] using o2.mono (by simp), (below_box _).trans (hb2.mono (by simp))⟩
    · have HE := Lib.hid he
      have HC := Lib.hid (show pxC p e f = 2 by rw [pxC, if_pos HP.out, if_neg (by rw [HE.out]; simp)])
      clear hp he
      by_cases h0 : f.length = 0
      · have HT := Lib.hid (show twoC p f f = 5 by rw [twoC, if_pos HP.out, if_pos HP.out, if_pos h0])
        clear h0
        go_enter Try.func63, Try.ntmps63
        go_wp2_with (first | (go_at_call 121; ((with_reducible refine (calls_int (l08Two_any HA.out HA.out) HT.out).mono ?_); rintro e w' ⟨rfl, rfl⟩)) | (go_at_call 74; ((with_reducible refine (calls_bool (l01In_any _ _ _ _) HE.out).mono ?_); rintro e w' ⟨rfl, rfl⟩)))
        go_ret2
        exact ⟨.slice none 0 0, by simp [HC.out], by simpa [pxL, HC.out] using Own.nil, Below.refl _ _⟩
      · have HT := Lib.hid (show twoC p f f = 0 by rw [twoC, if_pos HP.out, if_pos HP.out, if_neg h0])
        clear h0
        go_enter Try.func63, Try.ntmps63
        go_wp2_with (first | (go_at_call 121; ((with_reducible refine (calls_int (l08Two_any HA.out HA.out) HT.out).mono ?_); rintro e w' ⟨rfl, rfl⟩)) | (go_at_call 74; ((with_reducible refine (calls_bool (l01In_any _ _ _ _) HE.out).mono ?_); rintro e w' ⟨rfl, rfl⟩)))
        go_ret2
        exact ⟨.slice none 0 0, by simp [HC.out], by simpa [pxL, HC.out] using Own.nil, Below.refl _ _⟩
  · have HP := Lib.hid hp
    have HC := Lib.hid (show pxC p e f = 1 by rw [pxC, if_neg (by rw [HP.out]; simp)])
    have HT := Lib.hid (show twoC p f f = 1 by rw [twoC, if_neg (by rw [HP.out]; simp)])
    clear hp
    go_enter Try.func63, Try.ntmps63
    go_wp2_with (first | (go_at_call 121; ((with_reducible refine (calls_int (l08Two_any HA.out HA.out) HT.out).mono ?_); rintro e w' ⟨rfl, rfl⟩)))
    go_ret2
    exact ⟨.slice none 0 0, by simp [HC.out], by simpa [pxL, HC.out] using Own.nil, Below.refl _ _⟩

end Go.Proofs.Ytlndfjplhfgicaa
