/- Contracts of the top functions that the law on cycles calls (the same as in the single laws' texts). -/
import Derived.Test.YtaielmibofnddaaTc
import Derived.Test.YtaielmibofnddaaY
import Derived.Test.YtaielmibofnddaaPa
import Derived.Test.YtaielmibofnddaaNc
namespace Go.Proofs.Ytaielmibofnddaa
open Go.RowKit
set_option linter.unusedVariables false
set_option linter.unusedSimpArgs false

namespace cyclesOf
def out (zs : List Int) : List (List Int) := if permB zs then cycL zs else []
def code (zs : List Int) : Int := if permB zs then 0 else 1
theorem out_bd (zs : List Int) : (out zs).length ≤ 6 ∧ pre (out zs) (out zs).length ≤ 36 := by
  unfold out
  by_cases h : permB zs = true
  · rw [if_pos h]
    exact cycL_bd h
  · rw [if_neg h]; simp [pre]
theorem step_size {w w' : World} (h : Below w.heap.size w w') : w.heap.size ≤ w'.heap.size := h.size
set_option maxHeartbeats 1000000 in
theorem spec_any {v : Value} {zs : List Int} {w : World} (h : Reads w v zs) : Calls Try.prog 7 #[v] w (RetLLC (out zs) (code zs) w) := by
  have HR := Lib.hid h
  rcases Bool.eq_false_or_eq_true (permB zs) with hp | hp
  · have HP := Lib.hid hp; clear hp h
    go_enter Try.func7, Try.ntmps7
    go_wp2_with (go_at_call 25; with_reducible refine (calls_bool (sIsPermutation_any HR.out) HP.out).mono ?_)
    rintro _ w1 ⟨rfl, hb1⟩
    go_wp2_with (go_at_call 26; with_reducible refine (l21Cycles_any (HR.out.step hb1) HP.out).mono ?_)
    rintro _ w2 ⟨v2, rfl, o2, hb2⟩
    go_wp2
    go_ret2
    exact ⟨v2, by simp [code, HP.out], by simpa [out, HP.out] using o2.down hb1.size, hb1.trans (hb2.mono hb1.size)⟩
  · have HP := Lib.hid hp; clear hp h
    go_enter Try.func7, Try.ntmps7
    go_wp2_with (go_at_call 25; with_reducible refine (calls_bool (sIsPermutation_any HR.out) HP.out).mono ?_)
    rintro _ w1 ⟨rfl, hb1⟩
    go_wp2
    go_ret2
    exact ⟨.slice none 0 0, by simp [code, HP.out], by simpa [out, HP.out] using ll_nil, hb1⟩
set_option maxHeartbeats 1000000 in
theorem impl_any {v : Value} {zs : List Int} {w : World} (h : Reads w v zs) : Calls Try.prog 6 #[v] w (RetLLC (out zs) (code zs) w) := by
  have HR := Lib.hid h
  rcases Bool.eq_false_or_eq_true (permB zs) with hp | hp
  · have HP := Lib.hid hp; clear hp h
    go_enter Try.func6, Try.ntmps6
    go_wp2_with (go_at_call 23; with_reducible refine (calls_bool (IsPermutation_any HR.out) HP.out).mono ?_)
    rintro _ _ ⟨rfl, rfl⟩
    go_wp2_with (go_at_call 24; with_reducible refine (cycles_any HR.out HP.out).mono ?_)
    rintro _ w2 ⟨v2, rfl, o2, hb2⟩
    go_wp2
    go_ret2
    exact ⟨v2, by simp [code, HP.out], by simpa [out, HP.out] using o2, hb2⟩
  · have HP := Lib.hid hp; clear hp h
    go_enter Try.func6, Try.ntmps6
    go_wp2_with (go_at_call 23; with_reducible refine (calls_bool (IsPermutation_any HR.out) HP.out).mono ?_)
    rintro _ _ ⟨rfl, rfl⟩
    go_wp2
    go_ret2
    exact ⟨.slice none 0 0, by simp [code, HP.out], by simpa [out, HP.out] using ll_nil, Below.refl _ _⟩
end cyclesOf

namespace cycleTypeLaw
def out (zs : List Int) : List Int := if permB zs then typL zs else []
def code (zs : List Int) : Int := if permB zs then 0 else 1
set_option maxHeartbeats 1000000 in
theorem spec_any {v : Value} {zs : List Int} {w : World} (h : Reads w v zs) : Calls Try.prog 9 #[v] w (RetIC (out zs) (code zs) w) := by
  have HR := Lib.hid h
  rcases Bool.eq_false_or_eq_true (permB zs) with hp | hp
  · have HP := Lib.hid hp; clear hp h
    go_enter Try.func9, Try.ntmps9
    go_wp2_with (go_at_call 25; with_reducible refine (calls_bool (sIsPermutation_any HR.out) HP.out).mono ?_)
    rintro _ w1 ⟨rfl, hb1⟩
    go_wp2_with (go_at_call 28; with_reducible refine (l21Type_any (HR.out.step hb1) HP.out).mono ?_)
    rintro _ w2 ⟨v2, rfl, o2, hb2⟩
    go_wp2
    go_ret2
    exact ⟨v2, by simp [code, HP.out], by simpa [out, HP.out] using o2.mono hb1.size, hb1.trans (hb2.mono hb1.size)⟩
  · have HP := Lib.hid hp; clear hp h
    go_enter Try.func9, Try.ntmps9
    go_wp2_with (go_at_call 25; with_reducible refine (calls_bool (sIsPermutation_any HR.out) HP.out).mono ?_)
    rintro _ w1 ⟨rfl, hb1⟩
    go_wp2
    go_ret2
    exact ⟨.slice none 0 0, by simp [code, HP.out], by simpa [out, HP.out] using Own.nil, hb1⟩
set_option maxHeartbeats 1000000 in
theorem impl_any {v : Value} {zs : List Int} {w : World} (h : Reads w v zs) : Calls Try.prog 8 #[v] w (RetIC (out zs) (code zs) w) := by
  have HR := Lib.hid h
  rcases Bool.eq_false_or_eq_true (permB zs) with hp | hp
  · have HP := Lib.hid hp; clear hp h
    go_enter Try.func8, Try.ntmps8
    go_wp2_with (go_at_call 23; with_reducible refine (calls_bool (IsPermutation_any HR.out) HP.out).mono ?_)
    rintro _ _ ⟨rfl, rfl⟩
    go_wp2_with (go_at_call 27; with_reducible refine (cycleType_any HR.out HP.out).mono ?_)
    rintro _ w2 ⟨v2, rfl, o2, hb2⟩
    go_wp2
    go_ret2
    exact ⟨v2, by simp [code, HP.out], by simpa [out, HP.out] using o2, hb2⟩
  · have HP := Lib.hid hp; clear hp h
    go_enter Try.func8, Try.ntmps8
    go_wp2_with (go_at_call 23; with_reducible refine (calls_bool (IsPermutation_any HR.out) HP.out).mono ?_)
    rintro _ _ ⟨rfl, rfl⟩
    go_wp2
    go_ret2
    exact ⟨.slice none 0 0, by simp [code, HP.out], by simpa [out, HP.out] using Own.nil, Below.refl _ _⟩
end cycleTypeLaw

namespace powerPermutation
def base (zs : List Int) (e : Int) : List Int := if e < 0 then invL zs else zs
def out (zs : List Int) (e : Int) : List Int := if permB zs then if inB e (-1000) 1000 then powR (base zs e) e.natAbs else [] else []
def code (zs : List Int) (e : Int) : Int := if permB zs then if inB e (-1000) 1000 then 0 else 2 else 1
theorem rfl_len {zs : List Int} : zs.length = zs.length := rfl
set_option maxHeartbeats 2000000 in
theorem spec_any {v : Value} {zs : List Int} {e : Int} {w : World} (h : Reads w v zs) : Calls Try.prog 16 #[v, .int .i64 e] w (RetIC (out zs e) (code zs e) w) := by
  have HR := Lib.hid h
  obtain ⟨hL, a, cap, rfl, hcap, hmax, hcell⟩ := h
  clear hcell
  rcases Bool.eq_false_or_eq_true (permB zs) with hp | hp
  case inr =>
    have HP := Lib.hid hp; clear hp
    go_enter Try.func16, Try.ntmps16
    go_wp2_with (go_at_call 25; with_reducible refine (calls_bool (sIsPermutation_any HR.out) HP.out).mono ?_)
    rintro _ w0 ⟨rfl, hb0⟩
    go_wp2
    go_ret2
    exact ⟨.slice none 0 0, by simp [code, HP.out], by simpa [out, HP.out] using Own.nil, hb0⟩
  obtain ⟨hp1, hp2, hp3⟩ := permB_bd hp
  have HP := Lib.hid hp
  have HP3 := Lib.hid (show Pts zs.length zs from hp3)
  clear hp hp3
  rcases Bool.eq_false_or_eq_true (inB e (-1000) 1000) with hi | hi
  case inr =>
    have HI := Lib.hid hi; clear hi
    go_enter Try.func16, Try.ntmps16
    go_wp2_with (go_at_call 25; with_reducible refine (calls_bool (sIsPermutation_any HR.out) HP.out).mono ?_)
    rintro _ w0 ⟨rfl, hb0⟩
    go_wp2_with (go_at_call 41; ((with_reducible refine (calls_bool (l01In_any _ _ _ _) HI.out).mono ?_); rintro e w' ⟨rfl, rfl⟩))
    go_ret2
    exact ⟨.slice none 0 0, by simp [code, HP.out, HI.out], by simpa [out, HP.out, HI.out] using Own.nil, hb0⟩
  have hbd := inB_iff.1 hi
  have HI := Lib.hid hi; clear hi
  by_cases hneg : e < 0
  · have HBA := Lib.hid (show base zs e = invL zs by unfold base; rw [if_pos hneg])
    go_enter Try.func16, Try.ntmps16
    go_wp2_with (go_at_call 25; with_reducible refine (calls_bool (sIsPermutation_any HR.out) HP.out).mono ?_)
    rintro _ w0 ⟨rfl, hb0⟩
    go_wp2_with (go_at_call 41; ((with_reducible refine (calls_bool (l01In_any _ _ _ _) HI.out).mono ?_); rintro e w' ⟨rfl, rfl⟩))
    go_wp2_with (go_at_call 42; with_reducible refine (l21Inverse_any (HR.out.step hb0) HP.out).mono ?_)
    rintro _ w1 ⟨v1, rfl, o1, hb1⟩
    have B1 : Below w.heap.size w w1 := hb0.trans (hb1.mono hb0.size)
    obtain ⟨a1, cap1, rfl, _, _, _⟩ := o1.shape
    have HBR := Lib.hid o1.reads
    have HBL := Lib.hid (invL_len zs)
    have HBP := Lib.hid (invL_pts hp1)
    clear o1
    go_wp2_with (go_at_call 43; with_reducible refine (l21One_any zs.length _ (by omega)).mono ?_)
    rintro _ w2 ⟨v2, rfl, o2, hb2⟩
    have B2 : Below w.heap.size w w2 := B1.trans (hb2.mono B1.size)
    have HO2 := Lib.hid (show Own w2 w.heap.size v2 (powR (invL zs) 0) by rw [powR, HBL.out]; exact o2.mono B1.size)
    have HB2 := Lib.hid hb2
    clear o2
    go_wp2
    go_loopw [1, 7] (fun c r wr => ∃ k : Nat, c = .int .i64 (e.natAbs - k) ∧ k ≤ e.natAbs ∧ Own wr w.heap.size r (powR (invL zs) k) ∧ Below w2.heap.size w2 wr) (fun c _ _ => (intOf c).toNat)
    case atStart => exact ⟨0, vint (by omega), by omega, HO2.out, Below.refl _ _⟩
    case round =>
      clear HO2
      obtain ⟨k, rfl, hk, hown, hbel⟩ := hrel
      have HO := Lib.hid hown
      have HB := Lib.hid hbel
      clear hown hbel
      by_cases hlt : k < e.natAbs
      · have HRB := Lib.hid ((HBR.out.step HB2.out).step HB.out)
        have HPP := Lib.hid (show ∀ j, j < (powR (invL zs) k).length → 0 ≤ el (powR (invL zs) k) j ∧ el (powR (invL zs) k) j < ((invL zs).length : Int) from powR_pts (a := invL zs) (by rw [HBL.out]; exact HBP.out) k)
        go_wp2_with (go_at_call 44; with_reducible refine (l21Product_any HRB.out HO.out.reads HPP.out).mono ?_)
        rintro _ w3 ⟨v3, rfl, o3, hb3⟩
        have HO3 := Lib.hid (show Own w3 w.heap.size v3 (powR (invL zs) (k + 1)) by rw [← powL_step (by rw [HBL.out]; exact HBP.out)]; exact o3.mono (Nat.le_trans B2.size HB.out.size))
        have HB3 := Lib.hid (HB.out.trans (hb3.mono HB.out.size))
        clear o3 hb3
        go_wp2
        go_roundw
        case rel => exact ⟨k + 1, vint (by omega), by omega, HO3.out, HB3.out⟩
        case measure => simp [intOf]; omega
      · obtain rfl : k = e.natAbs := by omega
        go_wp2
        go_ret2
        exact ⟨u7, by simp [code, HP.out, HI.out], by simpa [out, HP.out, HI.out, HBA.out] using HO.out, B2.trans (HB.out.mono B2.size)⟩
  · have HBA := Lib.hid (show base zs e = zs by unfold base; rw [if_neg hneg])
    have hpos : 0 ≤ e := by omega
    clear hneg
    go_enter Try.func16, Try.ntmps16
    go_wp2_with (go_at_call 25; with_reducible refine (calls_bool (sIsPermutation_any HR.out) HP.out).mono ?_)
    rintro _ w0 ⟨rfl, hb0⟩
    go_wp2_with (go_at_call 41; ((with_reducible refine (calls_bool (l01In_any _ _ _ _) HI.out).mono ?_); rintro e w' ⟨rfl, rfl⟩))
    have B1 : Below w.heap.size w w0 := hb0
    go_wp2_with (go_at_call 43; with_reducible refine (l21One_any zs.length _ (by omega)).mono ?_)
    rintro _ w2 ⟨v2, rfl, o2, hb2⟩
    have B2 : Below w.heap.size w w2 := B1.trans (hb2.mono B1.size)
    have HO2 := Lib.hid (show Own w2 w.heap.size v2 (powR (zs) 0) by rw [powR, rfl_len]; exact o2.mono B1.size)
    have HB2 := Lib.hid hb2
    clear o2
    go_wp2
    go_loopw [1, 7] (fun c r wr => ∃ k : Nat, c = .int .i64 (e.natAbs - k) ∧ k ≤ e.natAbs ∧ Own wr w.heap.size r (powR (zs) k) ∧ Below w2.heap.size w2 wr) (fun c _ _ => (intOf c).toNat)
    case atStart => exact ⟨0, vint (by omega), by omega, HO2.out, Below.refl _ _⟩
    case round =>
      clear HO2
      obtain ⟨k, rfl, hk, hown, hbel⟩ := hrel
      have HO := Lib.hid hown
      have HB := Lib.hid hbel
      clear hown hbel
      by_cases hlt : k < e.natAbs
      · have HRB := Lib.hid (((HR.out.step hb0).step HB2.out).step HB.out)
        have HPP := Lib.hid (show ∀ j, j < (powR (zs) k).length → 0 ≤ el (powR (zs) k) j ∧ el (powR (zs) k) j < ((zs).length : Int) from powR_pts (a := zs) (by rw [rfl_len]; exact HP3.out) k)
        go_wp2_with (go_at_call 44; with_reducible refine (l21Product_any HRB.out HO.out.reads HPP.out).mono ?_)
        rintro _ w3 ⟨v3, rfl, o3, hb3⟩
        have HO3 := Lib.hid (show Own w3 w.heap.size v3 (powR (zs) (k + 1)) by rw [← powL_step (by rw [rfl_len]; exact HP3.out)]; exact o3.mono (Nat.le_trans B2.size HB.out.size))
        have HB3 := Lib.hid (HB.out.trans (hb3.mono HB.out.size))
        clear o3 hb3
        go_wp2
        go_roundw
        case rel => exact ⟨k + 1, vint (by omega), by omega, HO3.out, HB3.out⟩
        case measure => simp [intOf]; omega
      · obtain rfl : k = e.natAbs := by omega
        go_wp2
        go_ret2
        exact ⟨u7, by simp [code, HP.out, HI.out], by simpa [out, HP.out, HI.out, HBA.out] using HO.out, B2.trans (HB.out.mono B2.size)⟩
set_option maxHeartbeats 2000000 in
theorem impl_any {v : Value} {zs : List Int} {e : Int} {w : World} (h : Reads w v zs) : Calls Try.prog 15 #[v, .int .i64 e] w (RetIC (out zs e) (code zs e) w) := by
  have HR := Lib.hid h
  obtain ⟨hL, a, cap, rfl, hcap, hmax, hcell⟩ := h
  clear hcell
  rcases Bool.eq_false_or_eq_true (permB zs) with hp | hp
  case inr =>
    have HP := Lib.hid hp; clear hp
    go_enter Try.func15, Try.ntmps15
    go_wp2_with (go_at_call 23; with_reducible refine (calls_bool (IsPermutation_any HR.out) HP.out).mono ?_)
    rintro _ _ ⟨rfl, rfl⟩
    go_wp2
    go_ret2
    exact ⟨.slice none 0 0, by simp [code, HP.out], by simpa [out, HP.out] using Own.nil, (Below.refl w.heap.size w)⟩
  obtain ⟨hp1, hp2, hp3⟩ := permB_bd hp
  have HP := Lib.hid hp
  have HP3 := Lib.hid (show Pts zs.length zs from hp3)
  clear hp hp3
  rcases Bool.eq_false_or_eq_true (inB e (-1000) 1000) with hi | hi
  case inr =>
    have HI := Lib.hid hi; clear hi
    go_enter Try.func15, Try.ntmps15
    go_wp2_with (go_at_call 23; with_reducible refine (calls_bool (IsPermutation_any HR.out) HP.out).mono ?_)
    rintro _ _ ⟨rfl, rfl⟩
    go_wp2_with (go_at_call 35; ((with_reducible refine (calls_bool (within_any _ _ _ _) HI.out).mono ?_); rintro e w' ⟨rfl, rfl⟩))
    go_ret2
    exact ⟨.slice none 0 0, by simp [code, HP.out, HI.out], by simpa [out, HP.out, HI.out] using Own.nil, (Below.refl w.heap.size w)⟩
  have hbd := inB_iff.1 hi
  have HI := Lib.hid hi; clear hi
  by_cases hneg : e < 0
  · have HBA := Lib.hid (show base zs e = invL zs by unfold base; rw [if_pos hneg])
    go_enter Try.func15, Try.ntmps15
    go_wp2_with (go_at_call 23; with_reducible refine (calls_bool (IsPermutation_any HR.out) HP.out).mono ?_)
    rintro _ _ ⟨rfl, rfl⟩
    go_wp2_with (go_at_call 35; ((with_reducible refine (calls_bool (within_any _ _ _ _) HI.out).mono ?_); rintro e w' ⟨rfl, rfl⟩))
    go_wp2_with (go_at_call 36; with_reducible refine (opposite_any HR.out HP.out).mono ?_)
    rintro _ w1 ⟨v1, rfl, o1, hb1⟩
    have B1 : Below w.heap.size w w1 := (Below.refl w.heap.size w).trans (hb1.mono (Below.refl w.heap.size w).size)
    obtain ⟨a1, cap1, rfl, _, _, _⟩ := o1.shape
    have HBR := Lib.hid o1.reads
    have HBL := Lib.hid (invL_len zs)
    have HBP := Lib.hid (invL_pts hp1)
    clear o1
    go_wp2_with (go_at_call 38; ((with_reducible refine (size_int64_any (HR.out.step B1)).mono ?_); rintro e w' ⟨rfl, rfl⟩))
    go_wp2_with (go_at_call 37; with_reducible refine (identity_any zs.length _ (by omega)).mono ?_)
    rintro _ w2 ⟨v2, rfl, o2, hb2⟩
    have B2 : Below w.heap.size w w2 := B1.trans (hb2.mono B1.size)
    have HO2 := Lib.hid (show Own w2 w.heap.size v2 (powR (invL zs) 0) by rw [powR, HBL.out]; exact o2.mono B1.size)
    have HB2 := Lib.hid hb2
    clear o2
    go_wp2_with (go_at_call 39; ((with_reducible refine (abs_any _ _ (by omega) (by omega)).mono ?_); rintro e w' ⟨rfl, rfl⟩))
    go_wp2
    go_loopw [7, 26] (fun r c wr => ∃ k : Nat, c = .int .i64 (k : Int) ∧ k ≤ e.natAbs ∧ Own wr w.heap.size r (powR (invL zs) k) ∧ Below w2.heap.size w2 wr) (fun _ c _ => e.natAbs - (intOf c).toNat)
    case atStart => exact ⟨0, rfl, by omega, HO2.out, Below.refl _ _⟩
    case round =>
      clear HO2
      obtain ⟨k, rfl, hk, hown, hbel⟩ := hrel
      have HO := Lib.hid hown
      have HB := Lib.hid hbel
      clear hown hbel
      by_cases hlt : k < e.natAbs
      · have HRB := Lib.hid ((HBR.out.step HB2.out).step HB.out)
        have HPP := Lib.hid (show ∀ j, j < (invL zs).length → 0 ≤ el (invL zs) j ∧ el (invL zs) j < ((powR (invL zs) k).length : Int) by intro j hj; rw [powR_len, HBL.out]; exact HBP.out j hj)
        go_wp2_with (go_at_call 40; with_reducible refine (product_any HO.out.reads HRB.out HPP.out).mono ?_)
        rintro _ w3 ⟨v3, rfl, o3, hb3⟩
        have HO3 := Lib.hid (show Own w3 w.heap.size v3 (powR (invL zs) (k + 1)) by rw [powR]; exact o3.mono (Nat.le_trans B2.size HB.out.size))
        have HB3 := Lib.hid (HB.out.trans (hb3.mono HB.out.size))
        clear o3 hb3
        go_wp2
        go_roundw
        case rel => exact ⟨k + 1, by go_num, by omega, HO3.out, HB3.out⟩
        case measure => simp [intOf]; omega
      · obtain rfl : k = e.natAbs := by omega
        go_wp2
        go_ret2
        exact ⟨u7, by simp [code, HP.out, HI.out], by simpa [out, HP.out, HI.out, HBA.out] using HO.out, B2.trans (HB.out.mono B2.size)⟩
  · have HBA := Lib.hid (show base zs e = zs by unfold base; rw [if_neg hneg])
    have hpos : 0 ≤ e := by omega
    clear hneg
    go_enter Try.func15, Try.ntmps15
    go_wp2_with (go_at_call 23; with_reducible refine (calls_bool (IsPermutation_any HR.out) HP.out).mono ?_)
    rintro _ _ ⟨rfl, rfl⟩
    go_wp2_with (go_at_call 35; ((with_reducible refine (calls_bool (within_any _ _ _ _) HI.out).mono ?_); rintro e w' ⟨rfl, rfl⟩))
    have B1 : Below w.heap.size w w := (Below.refl w.heap.size w)
    go_wp2_with (go_at_call 38; ((with_reducible refine (size_int64_any (HR.out)).mono ?_); rintro e w' ⟨rfl, rfl⟩))
    go_wp2_with (go_at_call 37; with_reducible refine (identity_any zs.length _ (by omega)).mono ?_)
    rintro _ w2 ⟨v2, rfl, o2, hb2⟩
    have B2 : Below w.heap.size w w2 := B1.trans (hb2.mono B1.size)
    have HO2 := Lib.hid (show Own w2 w.heap.size v2 (powR (zs) 0) by rw [powR, rfl_len]; exact o2.mono B1.size)
    have HB2 := Lib.hid hb2
    clear o2
    go_wp2_with (go_at_call 39; ((with_reducible refine (abs_any _ _ (by omega) (by omega)).mono ?_); rintro e w' ⟨rfl, rfl⟩))
    go_wp2
    go_loopw [7, 26] (fun r c wr => ∃ k : Nat, c = .int .i64 (k : Int) ∧ k ≤ e.natAbs ∧ Own wr w.heap.size r (powR (zs) k) ∧ Below w2.heap.size w2 wr) (fun _ c _ => e.natAbs - (intOf c).toNat)
    case atStart => exact ⟨0, rfl, by omega, HO2.out, Below.refl _ _⟩
    case round =>
      clear HO2
      obtain ⟨k, rfl, hk, hown, hbel⟩ := hrel
      have HO := Lib.hid hown
      have HB := Lib.hid hbel
      clear hown hbel
      by_cases hlt : k < e.natAbs
      · have HRB := Lib.hid ((HR.out.step HB2.out).step HB.out)
        have HPP := Lib.hid (show ∀ j, j < (zs).length → 0 ≤ el (zs) j ∧ el (zs) j < ((powR (zs) k).length : Int) by intro j hj; rw [powR_len, rfl_len]; exact HP3.out j hj)
        go_wp2_with (go_at_call 40; with_reducible refine (product_any HO.out.reads HRB.out HPP.out).mono ?_)
        rintro _ w3 ⟨v3, rfl, o3, hb3⟩
        have HO3 := Lib.hid (show Own w3 w.heap.size v3 (powR (zs) (k + 1)) by rw [powR]; exact o3.mono (Nat.le_trans B2.size HB.out.size))
        have HB3 := Lib.hid (HB.out.trans (hb3.mono HB.out.size))
        clear o3 hb3
        go_wp2
        go_roundw
        case rel => exact ⟨k + 1, by go_num, by omega, HO3.out, HB3.out⟩
        case measure => simp [intOf]; omega
      · obtain rfl : k = e.natAbs := by omega
        go_wp2
        go_ret2
        exact ⟨u7, by simp [code, HP.out, HI.out], by simpa [out, HP.out, HI.out, HBA.out] using HO.out, B2.trans (HB.out.mono B2.size)⟩
end powerPermutation

/-! ### what a slice of slices reads -/
def ReadsLL (w : World) (v : Value) (zss : List (List Int)) : Prop := ∃ a cap, v = .slice a zss.length cap ∧ zss.length ≤ cap ∧ cap ≤ maxLen ∧
    (∀ i, i < zss.length → ∃ g a2 cap2, a = some ⟨g, 0, none⟩ ∧ g < w.heap.size ∧ w.cell? ⟨g, i, none⟩ = some (.slice a2 (row zss i).length cap2) ∧ Reads w (.slice a2 (row zss i).length cap2) (row zss i))
theorem OwnLL.readsLL {w : World} {lo hi : Nat} {v : Value} {zss : List (List Int)} (h : OwnLL w lo hi v zss) : ReadsLL w v zss := by
  obtain ⟨a, cap, e, h1, h2⟩ := h.shape
  subst e
  refine ⟨a, cap, rfl, h1, h2, fun i hi' => ?_⟩
  obtain ⟨g, a2, cap2, e, c, o⟩ := h.rowAt hi'
  refine ⟨g, a2, cap2, e, ?_, c, o.reads⟩
  have hb := h.2.1
  have h3 := h.1
  have := hb g (by rw [e]; rfl)
  omega
theorem ReadsLL.step {w w' : World} {v : Value} {zss : List (List Int)} (h : ReadsLL w v zss) (hb : Below w.heap.size w w') : ReadsLL w' v zss := by
  obtain ⟨a, cap, e, h1, h2, h3⟩ := h
  refine ⟨a, cap, e, h1, h2, fun i hi => ?_⟩
  obtain ⟨g, a2, cap2, e, hg, c, r⟩ := h3 i hi
  exact ⟨g, a2, cap2, e, Nat.lt_of_lt_of_le hg hb.size, by rw [hb.cell (p := ⟨g, i, none⟩) hg]; exact c, r.step hb⟩
theorem ReadsLL.at {w : World} {a : Option Addr} {n cap : Nat} {zss : List (List Int)} (h : ReadsLL w (.slice a n cap) zss) {i : Nat} (hi : i < zss.length) :
    ∃ g a2 cap2, a = some ⟨g, 0, none⟩ ∧ g < w.heap.size ∧ w.cell? ⟨g, i, none⟩ = some (.slice a2 (row zss i).length cap2) ∧ Reads w (.slice a2 (row zss i).length cap2) (row zss i) := by
  obtain ⟨a', cap', e, _, _, h3⟩ := h
  injection e with e1 _ _
  subst e1
  obtain ⟨g, a2, cap2, e, hg, c, r⟩ := h3 i hi
  exact ⟨g, a2, cap2, e, hg, c, r⟩
set_option maxRecDepth 100000 in
set_option maxHeartbeats 4000000 in
theorem likeTables_same {v u : Value} {zss : List (List Int)} {w : World} (h : ReadsLL w v zss) (k : ReadsLL w u zss) :
    Calls Try.prog 17 #[v, u] w fun e w' => e = .returned (.bool true) ∧ Below w.heap.size w w' := by
  obtain ⟨n, hn⟩ : ∃ n, n = zss.length := ⟨_, rfl⟩
  have HN := Lib.hid hn
  have HR := Lib.hid h
  have HK := Lib.hid k
  obtain ⟨a1, cap1, rfl, hcap1, hmax1, _⟩ := h
  obtain ⟨a2, cap2, rfl, hcap2, hmax2, _⟩ := k
  rw [← hn] at hcap1 hcap2 HR HK
  rw [← hn]
  have hnb : n ≤ 9223372036854775807 := by unfold maxLen at hmax1; omega
  clear hn hmax1 hmax2
  go_enter Try.func17, Try.ntmps17
  go_wp2
  go_loopw [5] (fun c wr => ∃ i : Nat, c = .int .i64 (i : Int) ∧ i ≤ n ∧ Below w.heap.size w wr) (fun c _ => n - (intOf c).toNat)
  case atStart => exact ⟨0, rfl, by omega, Below.refl _ _⟩
  case round =>
    obtain ⟨i, rfl, hi, hb⟩ := hrel
    have HB := Lib.hid hb
    clear hb
    by_cases hlt : i < n
    · obtain ⟨g1, b1, d1, rfl, f3, f1, r1⟩ := (HR.out.step HB.out).at (i := i) (by have := HN.out; omega)
      obtain ⟨g2, b2, d2, rfl, f4, f2, r2⟩ := (HK.out.step HB.out).at (i := i) (by have := HN.out; omega)
      have q1 : ∀ x, Reads (wext wr x) (.slice b1 (row zss i).length d1) (row zss i) := fun x => r1.step (wext_below wr x)
      have q2 : ∀ x, Reads (wext wr x) (.slice b2 (row zss i).length d2) (row zss i) := fun x => r2.step (wext_below wr x)
      clear r1 r2
      go_wp2_with (first | (go_at_call 18; ((with_reducible refine (likeInts_same (q1 _) (q2 _)).mono ?_); rintro e w1_hb0 ⟨rfl, hb0⟩; obtain ⟨chb0, fhb0, shb0⟩ := bfacts2 hb0; (try simp at shb0))) | (refine wp_region_wext (by kernel_rfl) (by kernel_rfl) ?_; (repeat (go_big_quiet_step (first | (go_at_call 18; with_reducible refine calls_wext (likeInts_same (q1 _) (q2 _)))))); refine wpQuiet_nil ?_; intro w1_hbq hbq; replace hbq := below_of_wext hbq; obtain ⟨chbq, fhbq, shbq⟩ := bfacts2 hbq; (try simp at shbq)))
      go_roundw
      case rel => exact ⟨i + 1, by go_num, by omega, by have := HB.out; first | exact this.trans (by assumption) | exact this.trans ((by assumption : Below wr.heap.size wr _).mono (by have := HB.out.size; omega))⟩
      case measure => simp [intOf]; omega
    · obtain rfl : i = n := by omega
      go_wp2
      go_ret
      exact ⟨rfl, HB.out⟩
set_option maxHeartbeats 1000000 in
theorem sum_any {v : Value} {zs : List Int} {w : World} (h : Reads w v zs) (hn : zs.length ≤ 1000) (hb : ∀ x ∈ zs, 0 ≤ x ∧ x ≤ 6) :
    Calls Try.prog 20 #[v] w fun e w' => e = .returned (.int .i64 zs.sum) ∧ w = w' := by
  obtain ⟨n, hnn⟩ : ∃ n, n = zs.length := ⟨_, rfl⟩
  have HN := Lib.hid hnn
  have HR := Lib.hid h
  have HBD := Lib.hid hb
  obtain ⟨_, a1, cap1, rfl, hcap1, hmax1, _⟩ := h
  rw [← hnn] at hcap1 HR hn
  rw [← hnn]
  clear hnn hmax1 hb
  go_enter Try.func20, Try.ntmps20
  go_wp2
  go_loop [3, 4] (fun s c => ∃ (i : Nat) (S : Int), c = .int .i64 (i : Int) ∧ s = .int .i64 S ∧ i ≤ n ∧ Hid (S = (zs.take i).sum) ∧ 0 ≤ S ∧ S ≤ 6 * (i : Int)) (fun _ c => n - (intOf c).toNat)
  case atStart => exact ⟨0, 0, rfl, rfl, by omega, Lib.hid (by simp), by omega, by omega⟩
  case round =>
    obtain ⟨i, S, rfl, rfl, hi, HS, s0, s1⟩ := hrel
    by_cases hlt : i < n
    · have hil : i < zs.length := by have := HN.out; omega
      obtain ⟨b, o, rfl, c1⟩ := Reads.cellN HR.out (k := i) hil
      obtain ⟨x0, x1⟩ := HBD.out _ (el_mem hil)
      have HX := Lib.hid (show S + el zs i = (zs.take (i + 1)).sum by rw [List.take_add_one, el_get hil, List.sum_append, HS.out]; simp)
      obtain ⟨x, hx⟩ : ∃ x, el zs i = x := ⟨_, rfl⟩
      rw [hx] at c1 x0 x1 HX
      clear hx
      go_wp2
      go_round
      case rel => exact ⟨i + 1, S + x, by go_num, rfl, by omega, HX, by omega, by omega⟩
      case measure => simp [intOf]; omega
    · obtain rfl : i = n := by omega
      have HE := Lib.hid (show S = zs.sum by rw [HS.out, List.take_of_length_le (by have := HN.out; omega)])
      go_wp2
      go_ret
      exact ⟨ret_int HE.out, rfl⟩

end Go.Proofs.Ytaielmibofnddaa
