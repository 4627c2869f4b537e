/- Contracts: RootsModular, ReducePolynomial. -/
import Derived.Test.YtlndfjplhfgicaaOt
import Derived.Test.YtlndfjplhfgicaaOq
namespace Go.Proofs.Ytlndfjplhfgicaa
open Go.RowKit
set_option linter.unusedVariables false
set_option linter.unusedSimpArgs false

/-- The roots below k. -/
def rtL (p : Int) (f : List Int) : Nat → List Int
  | 0 => []
  | k + 1 => if valM p f k = 0 then rtL p f k ++ [(k : Int)] else rtL p f k
theorem rtL_len (p : Int) (f : List Int) : ∀ k, (rtL p f k).length ≤ k
  | 0 => Nat.le_refl _
  | k + 1 => by
    have := rtL_len p f k
    rw [rtL]; split
    · simp; omega
    · omega
theorem rtL_mem (p : Int) (f : List Int) : ∀ k, ∀ x ∈ rtL p f k, 0 ≤ x ∧ x < k ∧ valM p f x = 0
  | 0, x, h => by simp [rtL] at h
  | k + 1, x, h => by
    have ih := rtL_mem p f k
    rw [rtL] at h
    split at h
    · rcases List.mem_append.1 h with h | h
      · have := ih x h; exact ⟨this.1, by omega, this.2.2⟩
      · simp at h; subst h; exact ⟨by omega, by omega, by assumption⟩
    · have := ih x h; exact ⟨this.1, by omega, this.2.2⟩
theorem modl_bd8 {p : Int} {f : List Int} (hp : p ≤ 97) (h : In p f) : Bd 8000000 f := fun k => by have := h k; omega
set_option maxHeartbeats 1000000 in
theorem l08Value_any {m x : Int} {v : Value} {f : List Int} {w : World} (h : Reads w v f) (hf : In m f) (hm : 1 ≤ m ∧ m ≤ 97) (hx : 0 ≤ x ∧ x < m) (hl : f.length ≤ 1000) :
    Calls Try.prog 181 #[.int .i64 m, v, .int .i64 x] w fun e w' => e = .returned (.int .i64 (valM m f x)) ∧ w = w' := by
  obtain ⟨a, cap, rfl, h1, h2⟩ := reads_nil_eq h
  obtain ⟨n, hn⟩ : ∃ n, f.length = n := ⟨_, rfl⟩
  rw [hn] at h h1 hl ⊢
  have HN := Lib.hid hn
  have HR := Lib.hid h
  have HF := Lib.hid hf
  clear h h2 hn hf
  go_enter Try.func181, Try.ntmps181
  go_wp2
  go_loop [7, 8] (fun y c => ∃ (j : Nat) (K : Int), c = .int .i64 K ∧ K + j + 1 = n ∧ j ≤ n ∧ y = .int .i64 (hvS m f x j)) (fun _ c => (intOf c + 1).toNat)
  case atStart => exact ⟨0, (n : Int) - 1, rfl, by omega, by omega, rfl⟩
  case round =>
    obtain ⟨j, K, rfl, hK, hjn, rfl⟩ := hrel
    by_cases hlt : j < n
    · obtain ⟨i, rfl⟩ : ∃ i : Nat, K = (i : Int) := ⟨n - 1 - j, by omega⟩
      have hij : f.length - 1 - j = i := by rw [HN.out]; omega
      obtain ⟨b, o, rfl, hc⟩ := HR.out.at (k := i) (by rw [HN.out]; omega)
      obtain ⟨m1, m2⟩ := val_num (f := f) (m := m) ⟨hm.1, by omega⟩ hx j
      obtain ⟨m3, m4⟩ := hvS_bd hm.1 f x j
      have hb := HF.out i
      have hm0 : ¬ m = 0 := by omega
      have ht := Lib.hid (show (hvS m f x j * x + el f i) % m = hvS m f x (j + 1) by rw [hvS, hij])
      have HK := Lib.hid hK
      have hin : i < n := by omega
      clear hK hij
      go_wp2
      go_round
      case rel => exact ⟨j + 1, (i : Int) - 1, rfl, by have := HK.out; omega, by omega, vint ht.out⟩
      case measure => first | (simp [intOf]; done) | (simp [intOf]; omega)
    · have hK0 : K = -1 := by omega
      have HE := Lib.hid (show valM m f x = hvS m f x j by rw [valM, HN.out, show n = j by omega])
      subst hK0
      go_wp2
      go_ret
      exact ⟨ret_int HE.out.symm, rfl⟩

namespace rootsModular
def code (p : Int) (f : List Int) : Int := if modlB p f then if f.length = 0 then 4 else 0 else 1
def out (p : Int) (f : List Int) : List Int := if modlB p f then if f.length = 0 then [] else rtL p f p.toNat else []
set_option maxHeartbeats 4000000 in
theorem rootsBy_any {p : Int} {v : Value} {f : List Int} {w : World} (h : Reads w v f) (hf : In p f) (hp : 2 ≤ p ∧ p ≤ 97) (hl : f.length ≤ 9) :
    Calls Try.prog 130 #[.int .i64 p, v] w (RetInts (rtL p f p.toNat) w) := by
  have HR := Lib.hid h
  have HF := Lib.hid (modl_bd8 hp.2 hf)
  clear h hf
  go_enter Try.func130, Try.ntmps130
  go_wp2
  go_loopw [5, 8] (fun l c wr => ∃ k : Nat, c = .int .i64 (k : Int) ∧ (k : Int) ≤ p ∧ Own wr w.heap.size l (rtL p f k) ∧ Below w.heap.size w wr) (fun _ c _ => (p - intOf c).toNat)
  case atStart => exact ⟨0, rfl, by omega, Own.nil, Below.refl _ _⟩
  case round =>
    obtain ⟨k, rfl, hk, hown, hbel⟩ := hrel
    have HO := Lib.hid hown
    have HW := Lib.hid hbel
    have hsw := hbel.size
    have HRW := Lib.hid (HR.out.step HW.out)
    clear hown hbel
    by_cases hlt : (k : Int) < p
    · by_cases hv : valM p f k = 0
      · have HN := Lib.hid (show rtL p f (k + 1) = rtL p f k ++ [(k : Int)] by rw [rtL, if_pos hv])
        have hlen : (rtL p f k).length + 1 ≤ 1099511627776 := by have := rtL_len p f k; omega
        have HV := Lib.hid hv
        clear hv
        go_wp2_with (first | (go_at_call 180; ((with_reducible refine (calls_int (valueBy_any HRW.out HF.out ⟨by omega, by omega⟩ ⟨by omega, hlt⟩ (by omega)) HV.out).mono ?_); rintro e w' ⟨rfl, rfl⟩)) | (at_builtin; refine append_one _ rfl _ _ rfl rfl HO.out hlen hsw rfl ?_))
        intro vv w3 hown1 hbel1
        rw [← HN.out] at hown1
        have HO3 := Lib.hid hown1
        have HW3 := Lib.hid (HW.out.trans hbel1)
        clear hown1 hbel1
        go_wp2
        go_roundw
        case rel => exact ⟨k + 1, by go_num, by omega, HO3.out, HW3.out⟩
        case measure => simp [intOf]; omega
      · have HN := Lib.hid (show rtL p f (k + 1) = rtL p f k by rw [rtL, if_neg hv])
        have hvb : (valM p f k == 0) = false := by simpa using hv
        clear hv
        go_wp2_with (go_at_call 180; ((with_reducible refine (valueBy_any HRW.out HF.out ⟨by omega, by omega⟩ ⟨by omega, hlt⟩ (by omega)).mono ?_); rintro e w' ⟨rfl, rfl⟩))
        go_roundw
        case rel => exact ⟨k + 1, by go_num, by omega, by rw [HN.out]; exact HO.out, HW.out⟩
        case measure => simp [intOf]; omega
    · have HE := Lib.hid (show rtL p f p.toNat = rtL p f k by rw [show p.toNat = k by omega])
      go_wp2
      go_ret
      exact ⟨_, rfl, by rw [HE.out]; exact HO.out, HW.out⟩
set_option maxHeartbeats 4000000 in
theorem l08Roots_any {p : Int} {v : Value} {f : List Int} {w : World} (h : Reads w v f) (hf : In p f) (hp : 2 ≤ p ∧ p ≤ 97) (hl : f.length ≤ 9) :
    Calls Try.prog 131 #[.int .i64 p, v] w (RetInts (rtL p f p.toNat) w) := by
  have HR := Lib.hid h
  have HF := Lib.hid hf
  clear h hf
  go_enter Try.func131, Try.ntmps131
  go_wp2
  go_loopw [5, 6] (fun l c wr => ∃ k : Nat, c = .int .i64 (k : Int) ∧ (k : Int) ≤ p ∧ Own wr w.heap.size l (rtL p f k) ∧ Below w.heap.size w wr) (fun _ c _ => (p - intOf c).toNat)
  case atStart => exact ⟨0, rfl, by omega, own_empty (Nat.le_refl _), below_box _⟩
  case round =>
    obtain ⟨k, rfl, hk, hown, hbel⟩ := hrel
    have HO := Lib.hid hown
    have HW := Lib.hid hbel
    have hsw := hbel.size
    have HRW := Lib.hid (HR.out.step HW.out)
    clear hown hbel
    by_cases hlt : (k : Int) < p
    · by_cases hv : valM p f k = 0
      · have HN := Lib.hid (show rtL p f (k + 1) = rtL p f k ++ [(k : Int)] by rw [rtL, if_pos hv])
        have hlen : (rtL p f k).length + 1 ≤ 1099511627776 := by have := rtL_len p f k; omega
        have HV := Lib.hid hv
        clear hv
        go_wp2_with (first | (go_at_call 181; ((with_reducible refine (calls_int (l08Value_any HRW.out HF.out ⟨by omega, by omega⟩ ⟨by omega, hlt⟩ (by omega)) HV.out).mono ?_); rintro e w' ⟨rfl, rfl⟩)) | (at_builtin; refine append_one _ rfl _ _ rfl rfl HO.out hlen hsw rfl ?_))
        intro vv w3 hown1 hbel1
        rw [← HN.out] at hown1
        have HO3 := Lib.hid hown1
        have HW3 := Lib.hid (HW.out.trans hbel1)
        clear hown1 hbel1
        go_wp2
        go_roundw
        case rel => exact ⟨k + 1, by go_num, by omega, HO3.out, HW3.out⟩
        case measure => simp [intOf]; omega
      · have HN := Lib.hid (show rtL p f (k + 1) = rtL p f k by rw [rtL, if_neg hv])
        have hvb : (valM p f k == 0) = false := by simpa using hv
        clear hv
        go_wp2_with (go_at_call 181; ((with_reducible refine (l08Value_any HRW.out HF.out ⟨by omega, by omega⟩ ⟨by omega, hlt⟩ (by omega)).mono ?_); rintro e w' ⟨rfl, rfl⟩))
        go_roundw
        case rel => exact ⟨k + 1, by go_num, by omega, by rw [HN.out]; exact HO.out, HW.out⟩
        case measure => simp [intOf]; omega
    · have HE := Lib.hid (show rtL p f p.toNat = rtL p f k by rw [show p.toNat = k by omega])
      go_wp2
      go_ret
      exact ⟨_, rfl, by rw [HE.out]; exact HO.out, HW.out⟩
set_option maxHeartbeats 1000000 in
theorem impl_any {p : Int} {v : Value} {f : List Int} {w : World} (h : Reads w v f) : Calls Try.prog 59 #[.int .i64 p, v] w (RetIC (out p f) (code p f) w) := by
  obtain ⟨a, cap, rfl, k1, k2⟩ := reads_nil_eq h
  obtain ⟨n, hn⟩ : ∃ n, f.length = n := ⟨_, rfl⟩
  rw [hn] at h k1 ⊢
  have HA := Lib.hid h
  have HN := Lib.hid hn
  clear h k2 hn
  rcases Bool.eq_false_or_eq_true (modlB p f) with hp | hp
  · have HP := Lib.hid hp
    obtain ⟨p1, p2, ps, l1, i1⟩ := modl_in hp
    have HI := Lib.hid i1
    have HL := Lib.hid l1
    clear hp i1 l1
    by_cases h0 : n = 0
    · subst h0
      go_enter Try.func59, Try.ntmps59
      go_wp2_with (go_at_call 56; with_reducible refine (calls_bool (IsModular_any HA.out) HP.out).mono ?_)
      rintro _ w1 ⟨rfl, hb1⟩
      go_wp2
      go_ret2
      exact ⟨.slice none 0 0, by simp [code, HP.out, HN.out], by simpa [out, HP.out, HN.out] using Own.nil, hb1⟩
    · have hnb : ((n : Int) == 0) = false := by simp; omega
      go_enter Try.func59, Try.ntmps59
      go_wp2_with (go_at_call 56; with_reducible refine (calls_bool (IsModular_any HA.out) HP.out).mono ?_)
      rintro _ w1 ⟨rfl, hb1⟩
      go_wp2_with (go_at_call 130; with_reducible refine (rootsBy_any (HA.out.step hb1) HI.out ⟨p1, p2⟩ HL.out).mono ?_)
      rintro _ w3 ⟨v3, rfl, o3, hb3⟩
      go_wp2
      go_ret2
      exact ⟨v3, by simp [code, HP.out, HN.out, h0], by simpa [out, HP.out, HN.out, h0] using o3.mono hb1.size, hb1.trans (hb3.mono hb1.size)⟩
  · have HP := Lib.hid hp
    clear hp
    go_enter Try.func59, Try.ntmps59
    go_wp2_with (go_at_call 56; with_reducible refine (calls_bool (IsModular_any HA.out) HP.out).mono ?_)
    rintro _ w1 ⟨rfl, hb1⟩
    go_wp2
    go_ret2
    exact ⟨.slice none 0 0, by simp [code, HP.out], by simpa [out, HP.out] using Own.nil, hb1⟩
set_option maxHeartbeats 1000000 in
theorem spec_any {p : Int} {v : Value} {f : List Int} {w : World} (h : Reads w v f) : Calls Try.prog 60 #[.int .i64 p, v] w (RetIC (out p f) (code p f) w) := by
  obtain ⟨a, cap, rfl, k1, k2⟩ := reads_nil_eq h
  obtain ⟨n, hn⟩ : ∃ n, f.length = n := ⟨_, rfl⟩
  rw [hn] at h k1 ⊢
  have HA := Lib.hid h
  have HN := Lib.hid hn
  clear h k2 hn
  rcases Bool.eq_false_or_eq_true (modlB p f) with hp | hp
  · have HP := Lib.hid hp
    obtain ⟨p1, p2, ps, l1, i1⟩ := modl_in hp
    have HI := Lib.hid i1
    have HL := Lib.hid l1
    clear hp i1 l1
    by_cases h0 : n = 0
    · subst h0
      go_enter Try.func60, Try.ntmps60
      go_wp2_with (go_at_call 57; ((with_reducible refine (calls_bool (sIsModular_any HA.out) HP.out).mono ?_); rintro e w' ⟨rfl, rfl⟩))
      go_ret2
      exact ⟨.slice none 0 0, by simp [code, HP.out, HN.out], by simpa [out, HP.out, HN.out] using Own.nil, Below.refl _ _⟩
    · have hnb : ((n : Int) == 0) = false := by simp; omega
      go_enter Try.func60, Try.ntmps60
      go_wp2_with (first | (go_at_call 57; ((with_reducible refine (calls_bool (sIsModular_any HA.out) HP.out).mono ?_); rintro e w' ⟨rfl, rfl⟩)) | (go_at_call 131; with_reducible refine (l08Roots_any HA.out HI.out ⟨p1, p2⟩ HL.out).mono ?_))
      rintro _ w3 ⟨v3, rfl, o3, hb3⟩
      go_wp2
      go_ret2
      exact ⟨v3, by simp [code, HP.out, HN.out, h0], by simpa [out, HP.out, HN.out, h0] using o3, hb3⟩
  · have HP := Lib.hid hp
    clear hp
    go_enter Try.func60, Try.ntmps60
    go_wp2_with (go_at_call 57; ((with_reducible refine (calls_bool (sIsModular_any HA.out) HP.out).mono ?_); rintro e w' ⟨rfl, rfl⟩))
    go_ret2
    exact ⟨.slice none 0 0, by simp [code, HP.out], by simpa [out, HP.out] using Own.nil, Below.refl _ _⟩
end rootsModular

namespace reducePolynomial
def code (p : Int) (f : List Int) : Int := if smallB p then if polyB f then 0 else 1 else 1
def out (p : Int) (f : List Int) : List Int := if smallB p then if polyB f then redL p f else [] else []
set_option maxHeartbeats 1000000 in
theorem impl_any {p : Int} {v : Value} {f : List Int} {w : World} (h : Reads w v f) : Calls Try.prog 54 #[.int .i64 p, v] w (RetIC (out p f) (code p f) w) := by
  have HA := Lib.hid h
  clear h
  rcases Bool.eq_false_or_eq_true (smallB p) with hp | hp
  · have HP := Lib.hid hp
    have p1 := small_bd hp
    clear hp
    rcases Bool.eq_false_or_eq_true (polyB f) with hq | hq
    · have HQ := Lib.hid hq
      have l1 := (polyB_bd hq).1
      clear hq
      go_enter Try.func54, Try.ntmps54
      go_wp2_with (first | (go_at_call 85; ((with_reducible refine (calls_bool (isSmallPrime_any _ _) HP.out).mono ?_); rintro e w' ⟨rfl, rfl⟩)) | (go_at_call 107; ((with_reducible refine (calls_bool (IsPolynomial_any HA.out) HQ.out).mono ?_); rintro e w' ⟨rfl, rfl⟩)) | (go_at_call 117; with_reducible refine (reduce_any HA.out ⟨by omega, by omega⟩ (by omega)).mono ?_))
      rintro _ w3 ⟨v3, rfl, o3, hb3⟩
      go_wp2
      go_ret2
      exact ⟨v3, by simp [code, HP.out, HQ.out], by simpa [out, HP.out, HQ.out] using o3, hb3⟩
    · have HQ := Lib.hid hq
      clear hq
      go_enter Try.func54, Try.ntmps54
      go_wp2_with (first | (go_at_call 85; ((with_reducible refine (calls_bool (isSmallPrime_any _ _) HP.out).mono ?_); rintro e w' ⟨rfl, rfl⟩)) | (go_at_call 107; ((with_reducible refine (calls_bool (IsPolynomial_any HA.out) HQ.out).mono ?_); rintro e w' ⟨rfl, rfl⟩)))
      go_ret2
      exact ⟨.slice none 0 0, by simp [code, HP.out, HQ.out], by simpa [out, HP.out, HQ.out] using Own.nil, Below.refl _ _⟩
  · have HP := Lib.hid hp
    clear hp
    go_enter Try.func54, Try.ntmps54
    go_wp2_with (go_at_call 85; ((with_reducible refine (calls_bool (isSmallPrime_any _ _) HP.out).mono ?_); rintro e w' ⟨rfl, rfl⟩))
    go_ret2
    exact ⟨.slice none 0 0, by simp [code, HP.out], by simpa [out, HP.out] using Own.nil, Below.refl _ _⟩
set_option maxHeartbeats 1000000 in
theorem spec_any {p : Int} {v : Value} {f : List Int} {w : World} (h : Reads w v f) : Calls Try.prog 55 #[.int .i64 p, v] w (RetIC (out p f) (code p f) w) := by
  have HA := Lib.hid h
  clear h
  rcases Bool.eq_false_or_eq_true (smallB p) with hp | hp
  · have HP := Lib.hid hp
    have p1 := small_bd hp
    clear hp
    rcases Bool.eq_false_or_eq_true (polyB f) with hq | hq
    · have HQ := Lib.hid hq
      have l1 := (polyB_bd hq).1
      clear hq
      go_enter Try.func55, Try.ntmps55
      go_wp2_with (first | (go_at_call 88; ((with_reducible refine (calls_bool (l01Small_any _ _) HP.out).mono ?_); rintro e w' ⟨rfl, rfl⟩)) | (go_at_call 103; ((with_reducible refine (calls_bool (sIsPolynomial_any HA.out) HQ.out).mono ?_); rintro e w' ⟨rfl, rfl⟩)) | (go_at_call 127; with_reducible refine (l08Reduce_any HA.out ⟨by omega, by omega⟩ (by omega)).mono ?_))
      rintro _ w3 ⟨v3, rfl, o3, hb3⟩
      go_wp2
      go_ret2
      exact ⟨v3, by simp [code, HP.out, HQ.out], by simpa [out, HP.out, HQ.out] using o3, hb3⟩
    · have HQ := Lib.hid hq
      clear hq
      go_enter Try.func55, Try.ntmps55
      go_wp2_with (first | (go_at_call 88; ((with_reducible refine (calls_bool (l01Small_any _ _) HP.out).mono ?_); rintro e w' ⟨rfl, rfl⟩)) | (go_at_call 103; ((with_reducible refine (calls_bool (sIsPolynomial_any HA.out) HQ.out).mono ?_); rintro e w' ⟨rfl, rfl⟩)))
      go_ret2
      exact ⟨.slice none 0 0, by simp [code, HP.out, HQ.out], by simpa [out, HP.out, HQ.out] using Own.nil, Below.refl _ _⟩
  · have HP := Lib.hid hp
    clear hp
    go_enter Try.func55, Try.ntmps55
    go_wp2_with (go_at_call 88; ((with_reducible refine (calls_bool (l01Small_any _ _) HP.out).mono ?_); rintro e w' ⟨rfl, rfl⟩))
    go_ret2
    exact ⟨.slice none 0 0, by simp [code, HP.out], by simpa [out, HP.out] using Own.nil, Below.refl _ _⟩
end reducePolynomial

end Go.Proofs.Ytlndfjplhfgicaa
