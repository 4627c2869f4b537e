/- 'laws.FnExactPowerPermutation' returns true for all arguments: the program's PowerPermutation and the reference's give the same. Conditions: none. -/
import Derived.Test.YtdgigkbfekbkkaaRows
import Derived.WalkKit
import Derived.ProofKit
import Derived.OpenShut
import Derived.ShutString
import Derived.ChangeOld
import Derived.Below
import Derived.Lib.SmallJoins
import Derived.Test.YtdgigkbfekbkkaaPa
namespace Go.Proofs.Ytdgigkbfekbkkaa.powerPermutation
open Go.ChangeShapes Go.WideShapes Go.ChangeAt Go.RowKit
open Go.ChangeMaps (open_string shut_string)
set_option linter.unusedVariables false
set_option linter.unusedSimpArgs false

def base (zs : List Int) (e : Int) : List Int := if e < 0 then invL zs else zs
def out (zs : List Int) (e : Int) : List Int := if permB zs then if inB e (-1000) 1000 then powR (base zs e) e.natAbs else [] else []
def code (zs : List Int) (e : Int) : Int := if permB zs then if inB e (-1000) 1000 then 0 else 2 else 1
theorem rfl_len {zs : List Int} : zs.length = zs.length := rfl
set_option maxHeartbeats 2000000 in
theorem spec_any {v : Value} {zs : List Int} {e : Int} {w : World} (h : Reads w v zs) : Calls Try.prog 33 #[v, .int .i64 e] w (RetIC (out zs e) (code zs e) w) := by
  have HR := Lib.hid h
  obtain ⟨hL, a, cap, rfl, hcap, hmax, hcell⟩ := h
  clear hcell
  rcases Bool.eq_false_or_eq_true (permB zs) with hp | hp
  case inr =>
    have HP := Lib.hid hp; clear hp
    go_enter Try.func33, Try.ntmps33
    go_wp2_with (go_at_call 12; with_reducible refine (calls_bool (sIsPermutation_any HR.out) HP.out).mono ?_)
    rintro _ w0 ⟨rfl, hb0⟩
    go_wp2
    go_ret2
    exact ⟨.slice none 0 0, by simp [code, HP.out], by simpa [out, HP.out] using Own.nil, hb0⟩
  obtain ⟨hp1, hp2, hp3⟩ := permB_bd hp
  have HP := Lib.hid hp
  have HP3 := Lib.hid (show Pts zs.length zs from hp3)
  clear hp hp3
  rcases Bool.eq_false_or_eq_true (inB e (-1000) 1000) with hi | hi
  case inr =>
    have HI := Lib.hid hi; clear hi
    go_enter Try.func33, Try.ntmps33
    go_wp2_with (go_at_call 12; with_reducible refine (calls_bool (sIsPermutation_any HR.out) HP.out).mono ?_)
    rintro _ w0 ⟨rfl, hb0⟩
    go_wp2_with (go_at_call 40; ((with_reducible refine (calls_bool (l01In_any _ _ _ _) HI.out).mono ?_); rintro e w' ⟨rfl, rfl⟩))
    go_ret2
    exact ⟨.slice none 0 0, by simp [code, HP.out, HI.out], by simpa [out, HP.out, HI.out] using Own.nil, hb0⟩
  have hbd := inB_iff.1 hi
  have HI := Lib.hid hi; clear hi
  by_cases hneg : e < 0
  · have HBA := Lib.hid (show base zs e = invL zs by unfold base; rw [if_pos hneg])
    go_enter Try.func33, Try.ntmps33
    go_wp2_with (go_at_call 12; with_reducible refine (calls_bool (sIsPermutation_any HR.out) HP.out).mono ?_)
    rintro _ w0 ⟨rfl, hb0⟩
    go_wp2_with (go_at_call 40; ((with_reducible refine (calls_bool (l01In_any _ _ _ _) HI.out).mono ?_); rintro e w' ⟨rfl, rfl⟩))
    go_wp2_with (go_at_call 47; with_reducible refine (l21Inverse_any (HR.out.step hb0) HP.out).mono ?_)
    rintro _ w1 ⟨v1, rfl, o1, hb1⟩
    have B1 : Below w.heap.size w w1 := hb0.trans (hb1.mono hb0.size)
    obtain ⟨a1, cap1, rfl, _, _, _⟩ := o1.shape
    have HBR := Lib.hid o1.reads
    have HBL := Lib.hid (invL_len zs)
    have HBP := Lib.hid (invL_pts hp1)
    clear o1
    go_wp2_with (go_at_call 59; with_reducible refine (l21One_any zs.length _ (by omega)).mono ?_)
    rintro _ w2 ⟨v2, rfl, o2, hb2⟩
    have B2 : Below w.heap.size w w2 := B1.trans (hb2.mono B1.size)
    have HO2 := Lib.hid (show Own w2 w.heap.size v2 (powR (invL zs) 0) by rw [powR, HBL.out]; exact o2.mono B1.size)
    have HB2 := Lib.hid hb2
    clear o2
    go_wp2
    go_loopw [1, 7] (fun c r wr => ∃ k : Nat, c = .int .i64 (e.natAbs - k) ∧ k ≤ e.natAbs ∧ Own wr w.heap.size r (powR (invL zs) k) ∧ Below w2.heap.size w2 wr) (fun c _ _ => (intOf c).toNat)
    case atStart => exact ⟨0, vint (by omega), by omega, HO2.out, Below.refl _ _⟩
    case round =>
      clear HO2
      obtain ⟨k, rfl, hk, hown, hbel⟩ := hrel
      have HO := Lib.hid hown
      have HB := Lib.hid hbel
      clear hown hbel
      by_cases hlt : k < e.natAbs
      · have HRB := Lib.hid ((HBR.out.step HB2.out).step HB.out)
        have HPP := Lib.hid (show ∀ j, j < (powR (invL zs) k).length → 0 ≤ el (powR (invL zs) k) j ∧ el (powR (invL zs) k) j < ((invL zs).length : Int) from powR_pts (a := invL zs) (by rw [HBL.out]; exact HBP.out) k)
        go_wp2_with (go_at_call 49; with_reducible refine (l21Product_any HRB.out HO.out.reads HPP.out).mono ?_)
        rintro _ w3 ⟨v3, rfl, o3, hb3⟩
        have HO3 := Lib.hid (show Own w3 w.heap.size v3 (powR (invL zs) (k + 1)) by rw [← powL_step (by rw [HBL.out]; exact HBP.out)]; exact o3.mono (Nat.le_trans B2.size HB.out.size))
        have HB3 := Lib.hid (HB.out.trans (hb3.mono HB.out.size))
        clear o3 hb3
        go_wp2
        go_roundw
        case rel => exact ⟨k + 1, vint (by omega), by omega, HO3.out, HB3.out⟩
        case measure => simp [intOf]; omega
      · obtain rfl : k = e.natAbs := by omega
        go_wp2
        go_ret2
        exact ⟨u7, by simp [code, HP.out, HI.out], by simpa [out, HP.out, HI.out, HBA.out] using HO.out, B2.trans (HB.out.mono B2.size)⟩
  · have HBA := Lib.hid (show base zs e = zs by unfold base; rw [if_neg hneg])
    have hpos : 0 ≤ e := by omega
    clear hneg
    go_enter Try.func33, Try.ntmps33
    go_wp2_with (go_at_call 12; with_reducible refine (calls_bool (sIsPermutation_any HR.out) HP.out).mono ?_)
    rintro _ w0 ⟨rfl, hb0⟩
    go_wp2_with (go_at_call 40; ((with_reducible refine (calls_bool (l01In_any _ _ _ _) HI.out).mono ?_); rintro e w' ⟨rfl, rfl⟩))
    have B1 : Below w.heap.size w w0 := hb0
    go_wp2_with (go_at_call 59; with_reducible refine (l21One_any zs.length _ (by omega)).mono ?_)
    rintro _ w2 ⟨v2, rfl, o2, hb2⟩
    have B2 : Below w.heap.size w w2 := B1.trans (hb2.mono B1.size)
    have HO2 := Lib.hid (show Own w2 w.heap.size v2 (powR (zs) 0) by rw [powR, rfl_len]; exact o2.mono B1.size)
    have HB2 := Lib.hid hb2
    clear o2
    go_wp2
    go_loopw [1, 7] (fun c r wr => ∃ k : Nat, c = .int .i64 (e.natAbs - k) ∧ k ≤ e.natAbs ∧ Own wr w.heap.size r (powR (zs) k) ∧ Below w2.heap.size w2 wr) (fun c _ _ => (intOf c).toNat)
    case atStart => exact ⟨0, vint (by omega), by omega, HO2.out, Below.refl _ _⟩
    case round =>
      clear HO2
      obtain ⟨k, rfl, hk, hown, hbel⟩ := hrel
      have HO := Lib.hid hown
      have HB := Lib.hid hbel
      clear hown hbel
      by_cases hlt : k < e.natAbs
      · have HRB := Lib.hid (((HR.out.step hb0).step HB2.out).step HB.out)
        have HPP := Lib.hid (show ∀ j, j < (powR (zs) k).length → 0 ≤ el (powR (zs) k) j ∧ el (powR (zs) k) j < ((zs).length : Int) from powR_pts (a := zs) (by rw [rfl_len]; exact HP3.out) k)
        go_wp2_with (go_at_call 49; with_reducible refine (l21Product_any HRB.out HO.out.reads HPP.out).mono ?_)
        rintro _ w3 ⟨v3, rfl, o3, hb3⟩
        have HO3 := Lib.hid (show Own w3 w.heap.size v3 (powR (zs) (k + 1)) by rw [← powL_step (by rw [rfl_len]; exact HP3.out)]; exact o3.mono (Nat.le_trans B2.size HB.out.size))
        have HB3 := Lib.hid (HB.out.trans (hb3.mono HB.out.size))
        clear o3 hb3
        go_wp2
        go_roundw
        case rel => exact ⟨k + 1, vint (by omega), by omega, HO3.out, HB3.out⟩
        case measure => simp [intOf]; omega
      · obtain rfl : k = e.natAbs := by omega
        go_wp2
        go_ret2
        exact ⟨u7, by simp [code, HP.out, HI.out], by simpa [out, HP.out, HI.out, HBA.out] using HO.out, B2.trans (HB.out.mono B2.size)⟩
set_option maxHeartbeats 2000000 in
theorem impl_any {v : Value} {zs : List Int} {e : Int} {w : World} (h : Reads w v zs) : Calls Try.prog 34 #[v, .int .i64 e] w (RetIC (out zs e) (code zs e) w) := by
  have HR := Lib.hid h
  obtain ⟨hL, a, cap, rfl, hcap, hmax, hcell⟩ := h
  clear hcell
  rcases Bool.eq_false_or_eq_true (permB zs) with hp | hp
  case inr =>
    have HP := Lib.hid hp; clear hp
    go_enter Try.func34, Try.ntmps34
    go_wp2_with (go_at_call 14; with_reducible refine (calls_bool (IsPermutation_any HR.out) HP.out).mono ?_)
    rintro _ _ ⟨rfl, rfl⟩
    go_wp2
    go_ret2
    exact ⟨.slice none 0 0, by simp [code, HP.out], by simpa [out, HP.out] using Own.nil, (Below.refl w.heap.size w)⟩
  obtain ⟨hp1, hp2, hp3⟩ := permB_bd hp
  have HP := Lib.hid hp
  have HP3 := Lib.hid (show Pts zs.length zs from hp3)
  clear hp hp3
  rcases Bool.eq_false_or_eq_true (inB e (-1000) 1000) with hi | hi
  case inr =>
    have HI := Lib.hid hi; clear hi
    go_enter Try.func34, Try.ntmps34
    go_wp2_with (go_at_call 14; with_reducible refine (calls_bool (IsPermutation_any HR.out) HP.out).mono ?_)
    rintro _ _ ⟨rfl, rfl⟩
    go_wp2_with (go_at_call 42; ((with_reducible refine (calls_bool (within_any _ _ _ _) HI.out).mono ?_); rintro e w' ⟨rfl, rfl⟩))
    go_ret2
    exact ⟨.slice none 0 0, by simp [code, HP.out, HI.out], by simpa [out, HP.out, HI.out] using Own.nil, (Below.refl w.heap.size w)⟩
  have hbd := inB_iff.1 hi
  have HI := Lib.hid hi; clear hi
  by_cases hneg : e < 0
  · have HBA := Lib.hid (show base zs e = invL zs by unfold base; rw [if_pos hneg])
    go_enter Try.func34, Try.ntmps34
    go_wp2_with (go_at_call 14; with_reducible refine (calls_bool (IsPermutation_any HR.out) HP.out).mono ?_)
    rintro _ _ ⟨rfl, rfl⟩
    go_wp2_with (go_at_call 42; ((with_reducible refine (calls_bool (within_any _ _ _ _) HI.out).mono ?_); rintro e w' ⟨rfl, rfl⟩))
    go_wp2_with (go_at_call 48; with_reducible refine (opposite_any HR.out HP.out).mono ?_)
    rintro _ w1 ⟨v1, rfl, o1, hb1⟩
    have B1 : Below w.heap.size w w1 := (Below.refl w.heap.size w).trans (hb1.mono (Below.refl w.heap.size w).size)
    obtain ⟨a1, cap1, rfl, _, _, _⟩ := o1.shape
    have HBR := Lib.hid o1.reads
    have HBL := Lib.hid (invL_len zs)
    have HBP := Lib.hid (invL_pts hp1)
    clear o1
    go_wp2_with (go_at_call 43; ((with_reducible refine (size_int64_any (HR.out.step B1)).mono ?_); rintro e w' ⟨rfl, rfl⟩))
    go_wp2_with (go_at_call 60; with_reducible refine (identity_any zs.length _ (by omega)).mono ?_)
    rintro _ w2 ⟨v2, rfl, o2, hb2⟩
    have B2 : Below w.heap.size w w2 := B1.trans (hb2.mono B1.size)
    have HO2 := Lib.hid (show Own w2 w.heap.size v2 (powR (invL zs) 0) by rw [powR, HBL.out]; exact o2.mono B1.size)
    have HB2 := Lib.hid hb2
    clear o2
    go_wp2_with (go_at_call 61; ((with_reducible refine (abs_any _ _ (by omega) (by omega)).mono ?_); rintro e w' ⟨rfl, rfl⟩))
    go_wp2
    go_loopw [7, 26] (fun r c wr => ∃ k : Nat, c = .int .i64 (k : Int) ∧ k ≤ e.natAbs ∧ Own wr w.heap.size r (powR (invL zs) k) ∧ Below w2.heap.size w2 wr) (fun _ c _ => e.natAbs - (intOf c).toNat)
    case atStart => exact ⟨0, rfl, by omega, HO2.out, Below.refl _ _⟩
    case round =>
      clear HO2
      obtain ⟨k, rfl, hk, hown, hbel⟩ := hrel
      have HO := Lib.hid hown
      have HB := Lib.hid hbel
      clear hown hbel
      by_cases hlt : k < e.natAbs
      · have HRB := Lib.hid ((HBR.out.step HB2.out).step HB.out)
        have HPP := Lib.hid (show ∀ j, j < (invL zs).length → 0 ≤ el (invL zs) j ∧ el (invL zs) j < ((powR (invL zs) k).length : Int) by intro j hj; rw [powR_len, HBL.out]; exact HBP.out j hj)
        go_wp2_with (go_at_call 50; with_reducible refine (product_any HO.out.reads HRB.out HPP.out).mono ?_)
        rintro _ w3 ⟨v3, rfl, o3, hb3⟩
        have HO3 := Lib.hid (show Own w3 w.heap.size v3 (powR (invL zs) (k + 1)) by rw [powR]; exact o3.mono (Nat.le_trans B2.size HB.out.size))
        have HB3 := Lib.hid (HB.out.trans (hb3.mono HB.out.size))
        clear o3 hb3
        go_wp2
        go_roundw
        case rel => exact ⟨k + 1, by go_num, by omega, HO3.out, HB3.out⟩
        case measure => simp [intOf]; omega
      · obtain rfl : k = e.natAbs := by omega
        go_wp2
        go_ret2
        exact ⟨u7, by simp [code, HP.out, HI.out], by simpa [out, HP.out, HI.out, HBA.out] using HO.out, B2.trans (HB.out.mono B2.size)⟩
  · have HBA := Lib.hid (show base zs e = zs by unfold base; rw [if_neg hneg])
    have hpos : 0 ≤ e := by omega
    clear hneg
    go_enter Try.func34, Try.ntmps34
    go_wp2_with (go_at_call 14; with_reducible refine (calls_bool (IsPermutation_any HR.out) HP.out).mono ?_)
    rintro _ _ ⟨rfl, rfl⟩
    go_wp2_with (go_at_call 42; ((with_reducible refine (calls_bool (within_any _ _ _ _) HI.out).mono ?_); rintro e w' ⟨rfl, rfl⟩))
    have B1 : Below w.heap.size w w := (Below.refl w.heap.size w)
    go_wp2_with (go_at_call 43; ((with_reducible refine (size_int64_any (HR.out)).mono ?_); rintro e w' ⟨rfl, rfl⟩))
    go_wp2_with (go_at_call 60; with_reducible refine (identity_any zs.length _ (by omega)).mono ?_)
    rintro _ w2 ⟨v2, rfl, o2, hb2⟩
    have B2 : Below w.heap.size w w2 := B1.trans (hb2.mono B1.size)
    have HO2 := Lib.hid (show Own w2 w.heap.size v2 (powR (zs) 0) by rw [powR, rfl_len]; exact o2.mono B1.size)
    have HB2 := Lib.hid hb2
    clear o2
    go_wp2_with (go_at_call 61; ((with_reducible refine (abs_any _ _ (by omega) (by omega)).mono ?_); rintro e w' ⟨rfl, rfl⟩))
    go_wp2
    go_loopw [7, 26] (fun r c wr => ∃ k : Nat, c = .int .i64 (k : Int) ∧ k ≤ e.natAbs ∧ Own wr w.heap.size r (powR (zs) k) ∧ Below w2.heap.size w2 wr) (fun _ c _ => e.natAbs - (intOf c).toNat)
    case atStart => exact ⟨0, rfl, by omega, HO2.out, Below.refl _ _⟩
    case round =>
      clear HO2
      obtain ⟨k, rfl, hk, hown, hbel⟩ := hrel
      have HO := Lib.hid hown
      have HB := Lib.hid hbel
      clear hown hbel
      by_cases hlt : k < e.natAbs
      · have HRB := Lib.hid ((HR.out.step HB2.out).step HB.out)
        have HPP := Lib.hid (show ∀ j, j < (zs).length → 0 ≤ el (zs) j ∧ el (zs) j < ((powR (zs) k).length : Int) by intro j hj; rw [powR_len, rfl_len]; exact HP3.out j hj)
        go_wp2_with (go_at_call 50; with_reducible refine (product_any HO.out.reads HRB.out HPP.out).mono ?_)
        rintro _ w3 ⟨v3, rfl, o3, hb3⟩
        have HO3 := Lib.hid (show Own w3 w.heap.size v3 (powR (zs) (k + 1)) by rw [powR]; exact o3.mono (Nat.le_trans B2.size HB.out.size))
        have HB3 := Lib.hid (HB.out.trans (hb3.mono HB.out.size))
        clear o3 hb3
        go_wp2
        go_roundw
        case rel => exact ⟨k + 1, by go_num, by omega, HO3.out, HB3.out⟩
        case measure => simp [intOf]; omega
      · obtain rfl : k = e.natAbs := by omega
        go_wp2
        go_ret2
        exact ⟨u7, by simp [code, HP.out, HI.out], by simpa [out, HP.out, HI.out, HBA.out] using HO.out, B2.trans (HB.out.mono B2.size)⟩

set_option maxHeartbeats 4000000 in
theorem walk (a0 : Option Addr) (len0 cap0 : Nat) (z0 : List Int) (a1 : Int) (w : World) (ha0 : IsRow .i64 w a0 len0 cap0 z0) (ha1 : -9223372036854775808 ≤ a1 ∧ a1 ≤ 9223372036854775807) :
    Calls Try.prog 10 #[.slice a0 len0 cap0, .int .i64 a1] w fun e w' => e = .returned (.bool true) ∧ Below w.heap.size w w' := by
  by_cases hbig0 : len0 ≤ 1048576
  case neg =>
    go_enter Try.func10, Try.ntmps10
    go_wp2
    go_ret
    exact ⟨rfl, Below.refl _ _⟩
  obtain ⟨Z0, rfl, hzb0, hr0⟩ := ha0.reads hbig0
  clear ha0
  have B0 : Below w.heap.size w w := Below.refl _ _
  go_enter Try.func10, Try.ntmps10
  go_wp2_with (go_at_call 13; with_reducible refine (toInt64S_any hr0).mono ?_)
  rintro _ w1 ⟨v1, rfl, o1, hb1⟩
  have B1 : Below w.heap.size w w1 := B0.trans (hb1.mono B0.size)
  go_wp2_with (go_at_call 33; with_reducible refine (spec_any o1.reads).mono ?_)
  rintro _ w2 ⟨v2, rfl, o2, hb2⟩
  have B2 : Below w.heap.size w w2 := B1.trans (hb2.mono B1.size)
  have l2 := o2.1
  go_wp2_with (go_at_call 13; with_reducible refine (toInt64S_any (hr0.step B2)).mono ?_)
  rintro _ w3 ⟨v3, rfl, o3, hb3⟩
  have B3 : Below w.heap.size w w3 := B2.trans (hb3.mono B2.size)
  go_wp2_with (go_at_call 34; with_reducible refine (impl_any o3.reads).mono ?_)
  rintro _ w4 ⟨v4, rfl, o4, hb4⟩
  have B4 : Below w.heap.size w w4 := B3.trans (hb4.mono B3.size)
  have l4 := o4.1
  go_wp2_with (go_at_call 15; with_reducible refine (eqInt64S_same o4.reads ((o2.step hb3).step hb4).reads).mono ?_)
  rintro _ w5 ⟨rfl, hb5⟩
  have B5 : Below w.heap.size w w5 := B4.trans (hb5.mono B4.size)
  go_wp2_with (go_at_call 13; with_reducible refine (toInt64S_any (hr0.step B5)).mono ?_)
  rintro _ w6 ⟨v6, rfl, o6, hb6⟩
  have B6 : Below w.heap.size w w6 := B5.trans (hb6.mono B5.size)
  go_wp2_with (go_at_call 15; with_reducible refine (eqInt64S_same (((o3.step hb4).step hb5).step hb6).reads o6.reads).mono ?_)
  rintro _ w7 ⟨rfl, hb7⟩
  have B7 : Below w.heap.size w w7 := B6.trans (hb7.mono B6.size)
  go_wp2_with (go_at_call 20; with_reducible refine (markInt64S_any _ (by omega) (by omega) ((((o3.step hb4).step hb5).step hb6).step hb7)).mono ?_)
  rintro _ w8 ⟨rfl, o8, hg8⟩
  have B8 : Below w.heap.size w w8 := B7.grown hg8 B7.size (fun k hk => by have := (o3.lt k hk).1; have := B2.size; omega)
  go_wp2_with (go_at_call 15; with_reducible refine (eqInt64S_same ((((o4.step hb5).step hb6).step hb7).kept hg8 (own_apart o3 o4)).reads ((((((o2.step hb3).step hb4).step hb5).step hb6).step hb7).kept hg8 (own_apart' o2 o3)).reads).mono ?_)
  rintro _ w9 ⟨rfl, hb9⟩
  have B9 : Below w.heap.size w w9 := B8.trans (hb9.mono B8.size)
  go_wp2_with (go_at_call 20; with_reducible refine (markInt64S_any _ (by omega) (by omega) (((((o4.step hb5).step hb6).step hb7).kept hg8 (own_apart o3 o4)).step hb9)).mono ?_)
  rintro _ w10 ⟨rfl, o10, hg10⟩
  have B10 : Below w.heap.size w w10 := B9.grown hg10 B9.size (fun k hk => by have := (o4.lt k hk).1; have := B3.size; omega)
  go_wp2_with (go_at_call 21; with_reducible refine (heldInt64S_any _ (by omega) (by omega) o10.reads).mono ?_)
  rintro _ _ ⟨rfl, rfl⟩
  go_wp2_with (go_at_call 13; with_reducible refine (toInt64S_any (hr0.step B10)).mono ?_)
  rintro _ w11 ⟨v11, rfl, o11, hb11⟩
  have B11 : Below w.heap.size w w11 := B10.trans (hb11.mono B10.size)
  go_wp2_with (go_at_call 34; with_reducible refine (impl_any o11.reads).mono ?_)
  rintro _ w12 ⟨v12, rfl, o12, hb12⟩
  have B12 : Below w.heap.size w w12 := B11.trans (hb12.mono B11.size)
  have l12 := o12.1
  go_wp2_with (go_at_call 15; with_reducible refine (eqInt64S_same o12.reads ((((((((((o2.step hb3).step hb4).step hb5).step hb6).step hb7).kept hg8 (own_apart' o2 o3)).step hb9).kept hg10 (own_apart' (o2.step hb3) o4)).step hb11).step hb12).reads).mono ?_)
  rintro _ w13 ⟨rfl, hb13⟩
  have B13 : Below w.heap.size w w13 := B12.trans (hb13.mono B12.size)
  go_wp2_with (go_at_call 21; with_reducible refine (heldInt64S_any _ (by omega) (by omega) (((o10.step hb11).step hb12).step hb13).reads).mono ?_)
  rintro _ _ ⟨rfl, rfl⟩
  go_wp2
  go_ret
  exact ⟨rfl, B13⟩

theorem own : ownKnob Try.prog.godebug = none := by kernel_rfl
theorem laidOut : laidOutB Try.prog = true := by kernel_rfl

set_option maxRecDepth 100000 in
theorem lifted (os : Os) (started : os.Started) (H : Type) (enc : TypeId × Value → H) :
    ReturnsInHanded {} Try.checked os 10 .any (Rows.fnExactPowerPermutationSpec.pre6 enc Try.prog Try.f10 Rows.fnExactPowerPermutationRow.domain false) (Rows.fnExactPowerPermutationSpec.post enc Try.prog Try.f10 false true false false) := by
  refine returnsInHanded_of_change (C := Try.checked) own started (by kernel_rfl) Try.func10
    (ChangeSpec.witness6 (enc := enc) (C := Try.checked) false ⟨#[], #[.slice none 0 0, .int .i64 0], []⟩ 8 (by kernel_rfl) (by kernel_rfl) (by kernel_rfl) (by kernel_rfl)) ?_
  intro W base args ds gs before hval0 hW hcnd _
  have hval : ∀ (j : Nat) t v, Try.f10.params[j]? = some t → args[j]? = some v → Value.okWide Try.prog W .any base t v := hval0
  have hW' := hW
  obtain ⟨p, q, hA0, hV, rfl, hfz, hnd⟩ := hW
  have hA : DataW.TrodAll enc Try.prog W 0 (fun _ => true) true Try.f10.params.toList args.toList ds p := hA0
  rw [Try.params10] at hA hval
  obtain ⟨v0, vs0, d0, ds0, p0, q0, hargs, rfl, rfl, h0, r0⟩ := trodAll_cons hA
  obtain ⟨v1, vs1, d1, ds1, p1, q1, rfl, rfl, rfl, h1, r1⟩ := trodAll_cons r0
  obtain ⟨rfl, rfl, rfl⟩ := trodAll_nil r1
  obtain rfl : args = #[v0, v1] := by cases args; simp_all
  obtain ⟨rfl, rfl⟩ := trodVars_none hV
  have k0 := h0
  have lt0 : ∀ x ∈ p0, x.block < W.heap.size := by obtain ⟨m, hm⟩ := k0; exact DataW.trod_lt m _ _ _ hm
  obtain ⟨a0, len0, cap0, rfl⟩ := okWide_slice Try.underlying22 (hval 0 22 v0 rfl rfl)
  obtain ⟨z0, w0⟩ : ∃ zs, IsRow .i64 W a0 len0 cap0 zs := by
    obtain ⟨fuel, hf⟩ := h0
    rcases open_ints Try.underlying22 Try.underlying2 (by kernel_rfl) hf with ⟨hcs, _⟩ | ⟨x, l, c, zs, hcs, _, hl, hm, hz, _, hcell, hwz⟩
    · simp [Value.cells] at hcs
      obtain ⟨rfl, rfl, rfl⟩ := hcs
      exact ⟨[], .inl ⟨rfl, rfl, rfl, rfl⟩⟩
    · simp [Value.cells] at hcs
      obtain ⟨rfl, rfl, rfl⟩ := hcs
      exact ⟨zs, .inr ⟨_, rfl, hl, hm, by simpa using hz, hcell, hwz⟩⟩
  have k1 := h1
  have lt1 : ∀ x ∈ p1, x.block < W.heap.size := by obtain ⟨m, hm⟩ := k1; exact DataW.trod_lt m _ _ _ hm
  obtain ⟨a1, rfl, _, _, wf1⟩ := open_int Try.underlying2 (hval 1 2 v1 rfl rfl) h1
  clear hA0 hval0
  refine (walk a0 len0 cap0 z0 a1 W w0 (bounds_i64 wf1)).mono fun e W' ⟨he, bel⟩ => ?_
  subst he
  exact ⟨_, rfl, _, _, _, [], _, [], hW', trodAll_mk1 (shut_bool Try.underlying4 _), (trodAll_cons_mk (Below.trod laidOut (by kernel_rfl) (of_decide_eq_true (by kernel_rfl)) k0 bel lt0) (trodAll_cons_mk (Below.trod laidOut (by kernel_rfl) (of_decide_eq_true (by kernel_rfl)) k1 bel lt1) trodAll_mk0)), rfl, bel.frame _, fun h => by cases h⟩

theorem over : Rows.fnExactPowerPermutationRow.holds Try.pinned (OpenSpec.ofChange Rows.fnExactPowerPermutationSpec) :=
  OpenClaim.holds_of_wide 10 Try.f10 rfl rfl rfl rfl rfl rfl rfl ⟨rfl, rfl, rfl, rfl, rfl⟩ rfl rfl rfl rfl rfl (by kernel_rfl) Try.func10 (by kernel_rfl)
    (of_decide_eq_true (by kernel_rfl)) (by unfold Func.isWrapper; first | (rw [if_pos (by decide +kernel)]; kernel_rfl) | (rw [if_neg (by decide +kernel)]; exact ⟨rfl, rfl⟩))
    (fun os started H enc _ => lifted os started H enc)

theorem proved : Rows.FnExactPowerPermutationSaid := over
#print axioms proved
end Go.Proofs.Ytdgigkbfekbkkaa.powerPermutation
