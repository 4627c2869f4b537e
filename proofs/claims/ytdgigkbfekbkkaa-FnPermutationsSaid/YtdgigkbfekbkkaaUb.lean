/- Contracts of the top functions that the law on permutations calls (the same as in the single laws' texts). -/
import Derived.Test.YtdgigkbfekbkkaaX
import Derived.Test.YtdgigkbfekbkkaaPc
import Derived.Test.YtdgigkbfekbkkaaV
namespace Go.Proofs.Ytdgigkbfekbkkaa
open Go.RowKit
set_option linter.unusedVariables false
set_option linter.unusedSimpArgs false

namespace productOfTwo
def good (xs ys : List Int) : Bool := permB xs && permB ys
def out (xs ys : List Int) : List Int := if permB xs then if permB ys then if xs.length = ys.length then prodL xs ys else [] else [] else []
def code (xs ys : List Int) : Int := if permB xs then if permB ys then if xs.length = ys.length then 0 else 5 else 1 else 1
set_option maxHeartbeats 1000000 in
theorem spec_any {v u : Value} {xs ys : List Int} {w : World} (h : Reads w v xs) (h' : Reads w u ys) : Calls Try.prog 22 #[v, u] w (RetIC (out xs ys) (code xs ys) w) := by
  have HA := Lib.hid h
  have HB := Lib.hid h'
  obtain ⟨hL, a, cap, rfl, hcap, hmax, hcell⟩ := h
  obtain ⟨hL', a', cap', rfl, hcap', hmax', hcell'⟩ := h'
  clear hcell hcell'
  rcases Bool.eq_false_or_eq_true (permB xs) with hp | hp
  · have HP := Lib.hid hp; clear hp
    rcases Bool.eq_false_or_eq_true (permB ys) with hq | hq
    · have HQ := Lib.hid hq; clear hq
      by_cases hl : xs.length = ys.length
      · have HL := Lib.hid hl
        have hne : ((xs.length : Int) != (ys.length : Int)) = false := by simp [hl]
        have hne2 : ((xs.length : Int) == (ys.length : Int)) = true := by simp [hl]
        clear hl
        go_enter Try.func22, Try.ntmps22
        go_wp2_with (go_at_call 12; with_reducible refine (calls_bool (sIsPermutation_any HA.out) HP.out).mono ?_)
        rintro _ w1 ⟨rfl, hb1⟩
        go_wp2_with (go_at_call 12; with_reducible refine (calls_bool (sIsPermutation_any (HB.out.step hb1)) HQ.out).mono ?_)
        rintro _ w2 ⟨rfl, hb2⟩
        go_wp2_with (go_at_call 49; with_reducible refine (l21Product_any ((HA.out.step hb1).step hb2) ((HB.out.step hb1).step hb2) (by rw [HL.out]; exact (permB_bd HQ.out).2.2)).mono ?_)
        rintro _ w3 ⟨v3, rfl, o3, hb3⟩
        go_wp2
        go_ret2
        exact ⟨v3, by simp [code, HP.out, HQ.out, HL.out], by simpa [out, HP.out, HQ.out, HL.out] using o3.mono (hb1.trans (hb2.mono hb1.size)).size, (hb1.trans (hb2.mono hb1.size)).trans (hb3.mono (hb1.trans (hb2.mono hb1.size)).size)⟩
      · have HL := Lib.hid hl
        have hne : ((xs.length : Int) != (ys.length : Int)) = true := by simp; omega
        have hne2 : ((xs.length : Int) == (ys.length : Int)) = false := by simp; omega
        clear hl
        go_enter Try.func22, Try.ntmps22
        go_wp2_with (go_at_call 12; with_reducible refine (calls_bool (sIsPermutation_any HA.out) HP.out).mono ?_)
        rintro _ w1 ⟨rfl, hb1⟩
        go_wp2_with (go_at_call 12; with_reducible refine (calls_bool (sIsPermutation_any (HB.out.step hb1)) HQ.out).mono ?_)
        rintro _ w2 ⟨rfl, hb2⟩
        go_wp2
        go_ret2
        exact ⟨.slice none 0 0, by simp [code, HP.out, HQ.out, HL.out], by simpa [out, HP.out, HQ.out, HL.out] using Own.nil, (hb1.trans (hb2.mono hb1.size))⟩
    · have HQ := Lib.hid hq; clear hq
      go_enter Try.func22, Try.ntmps22
      go_wp2_with (go_at_call 12; with_reducible refine (calls_bool (sIsPermutation_any HA.out) HP.out).mono ?_)
      rintro _ w1 ⟨rfl, hb1⟩
      go_wp2_with (go_at_call 12; with_reducible refine (calls_bool (sIsPermutation_any (HB.out.step hb1)) HQ.out).mono ?_)
      rintro _ w2 ⟨rfl, hb2⟩
      go_wp2
      go_ret2
      exact ⟨.slice none 0 0, by simp [code, HP.out, HQ.out], by simpa [out, HP.out, HQ.out] using Own.nil, (hb1.trans (hb2.mono hb1.size))⟩
  · have HP := Lib.hid hp; clear hp
    go_enter Try.func22, Try.ntmps22
    go_wp2_with (go_at_call 12; with_reducible refine (calls_bool (sIsPermutation_any HA.out) HP.out).mono ?_)
    rintro _ w1 ⟨rfl, hb1⟩
    go_wp2
    go_ret2
    exact ⟨.slice none 0 0, by simp [code, HP.out], by simpa [out, HP.out] using Own.nil, hb1⟩
set_option maxHeartbeats 1000000 in
theorem impl_any {v u : Value} {xs ys : List Int} {w : World} (h : Reads w v xs) (h' : Reads w u ys) : Calls Try.prog 23 #[v, u] w (RetIC (out xs ys) (code xs ys) w) := by
  have HA := Lib.hid h
  have HB := Lib.hid h'
  obtain ⟨hL, a, cap, rfl, hcap, hmax, hcell⟩ := h
  obtain ⟨hL', a', cap', rfl, hcap', hmax', hcell'⟩ := h'
  clear hcell hcell'
  rcases Bool.eq_false_or_eq_true (permB xs) with hp | hp
  · have HP := Lib.hid hp; clear hp
    rcases Bool.eq_false_or_eq_true (permB ys) with hq | hq
    · have HQ := Lib.hid hq; clear hq
      by_cases hl : xs.length = ys.length
      · have HL := Lib.hid hl
        have hne : ((xs.length : Int) != (ys.length : Int)) = false := by simp [hl]
        have hne2 : ((xs.length : Int) == (ys.length : Int)) = true := by simp [hl]
        clear hl
        go_enter Try.func23, Try.ntmps23
        go_wp2_with (go_at_call 14; with_reducible refine (calls_bool (IsPermutation_any HA.out) HP.out).mono ?_)
        rintro _ _ ⟨rfl, rfl⟩
        go_wp2_with (go_at_call 14; with_reducible refine (calls_bool (IsPermutation_any HB.out) HQ.out).mono ?_)
        rintro _ _ ⟨rfl, rfl⟩
        go_wp2_with (go_at_call 50; with_reducible refine (product_any HA.out HB.out (by rw [HL.out]; exact (permB_bd HQ.out).2.2)).mono ?_)
        rintro _ w3 ⟨v3, rfl, o3, hb3⟩
        go_wp2
        go_ret2
        exact ⟨v3, by simp [code, HP.out, HQ.out, HL.out], by simpa [out, HP.out, HQ.out, HL.out] using o3.mono (Below.refl w.heap.size w).size, (Below.refl w.heap.size w).trans (hb3.mono (Below.refl w.heap.size w).size)⟩
      · have HL := Lib.hid hl
        have hne : ((xs.length : Int) != (ys.length : Int)) = true := by simp; omega
        have hne2 : ((xs.length : Int) == (ys.length : Int)) = false := by simp; omega
        clear hl
        go_enter Try.func23, Try.ntmps23
        go_wp2_with (go_at_call 14; with_reducible refine (calls_bool (IsPermutation_any HA.out) HP.out).mono ?_)
        rintro _ _ ⟨rfl, rfl⟩
        go_wp2_with (go_at_call 14; with_reducible refine (calls_bool (IsPermutation_any HB.out) HQ.out).mono ?_)
        rintro _ _ ⟨rfl, rfl⟩
        go_wp2
        go_ret2
        exact ⟨.slice none 0 0, by simp [code, HP.out, HQ.out, HL.out], by simpa [out, HP.out, HQ.out, HL.out] using Own.nil, (Below.refl w.heap.size w)⟩
    · have HQ := Lib.hid hq; clear hq
      go_enter Try.func23, Try.ntmps23
      go_wp2_with (go_at_call 14; with_reducible refine (calls_bool (IsPermutation_any HA.out) HP.out).mono ?_)
      rintro _ _ ⟨rfl, rfl⟩
      go_wp2_with (go_at_call 14; with_reducible refine (calls_bool (IsPermutation_any HB.out) HQ.out).mono ?_)
      rintro _ _ ⟨rfl, rfl⟩
      go_wp2
      go_ret2
      exact ⟨.slice none 0 0, by simp [code, HP.out, HQ.out], by simpa [out, HP.out, HQ.out] using Own.nil, (Below.refl w.heap.size w)⟩
  · have HP := Lib.hid hp; clear hp
    go_enter Try.func23, Try.ntmps23
    go_wp2_with (go_at_call 14; with_reducible refine (calls_bool (IsPermutation_any HA.out) HP.out).mono ?_)
    rintro _ _ ⟨rfl, rfl⟩
    go_wp2
    go_ret2
    exact ⟨.slice none 0 0, by simp [code, HP.out], by simpa [out, HP.out] using Own.nil, (Below.refl w.heap.size w)⟩
end productOfTwo

namespace permutationWith
def out (n r : Int) : List Int := if inB n 1 6 then if inB r 0 (factZ n - 1) then withL n.toNat r else [] else []
def code (n r : Int) : Int := if inB n 1 6 then if inB r 0 (factZ n - 1) then 0 else 2 else 2
set_option maxHeartbeats 1000000 in
theorem spec_any {n r : Int} {w : World} : Calls Try.prog 24 #[.int .i64 n, .int .i64 r] w (RetIC (out n r) (code n r) w) := by
  rcases Bool.eq_false_or_eq_true (inB n 1 6) with hi | hi
  · obtain ⟨n0, n1⟩ := inB_iff.1 hi
    obtain ⟨m, rfl⟩ : ∃ m : Nat, n = m := ⟨n.toNat, by omega⟩
    have hm : m ≤ 6 := by omega
    have HI := Lib.hid hi
    have hf := factZ_bd n1
    clear hi
    rcases Bool.eq_false_or_eq_true (inB r 0 (factZ m - 1)) with hj | hj
    · obtain ⟨h0, h1⟩ := inB_iff.1 hj
      have HJ := Lib.hid hj
      have h2 : r < factZ m := by omega
      clear hj h1
      go_enter Try.func24, Try.ntmps24
      go_wp2_with (first | (go_at_call 40; ((with_reducible refine (calls_bool (l01In_any _ _ _ _) HI.out).mono ?_); rintro e w' ⟨rfl, rfl⟩)) | (go_at_call 40; ((with_reducible refine (calls_bool (l01In_any _ _ _ _) HJ.out).mono ?_); rintro e w' ⟨rfl, rfl⟩)) | (go_at_call 51; ((with_reducible refine (l21Factorial_int _ _ (by omega) (by omega)).mono ?_); rintro e w' ⟨rfl, rfl⟩)))
      go_wp2_with (go_at_call 52; with_reducible refine (l21With_any m r _ hm h0 h2).mono ?_)
      rintro _ w1 ⟨v1, rfl, o1, hb1⟩
      go_wp2
      go_ret2
      exact ⟨v1, by simp [code, HI.out, HJ.out], by simpa [out, HI.out, HJ.out] using o1, hb1⟩
    · have HJ := Lib.hid hj
      clear hj
      go_enter Try.func24, Try.ntmps24
      go_wp2_with (first | (go_at_call 40; ((with_reducible refine (calls_bool (l01In_any _ _ _ _) HI.out).mono ?_); rintro e w' ⟨rfl, rfl⟩)) | (go_at_call 40; ((with_reducible refine (calls_bool (l01In_any _ _ _ _) HJ.out).mono ?_); rintro e w' ⟨rfl, rfl⟩)) | (go_at_call 51; ((with_reducible refine (l21Factorial_int _ _ (by omega) (by omega)).mono ?_); rintro e w' ⟨rfl, rfl⟩)))
      go_ret2
      exact ⟨.slice none 0 0, by simp [code, HI.out, HJ.out], by simpa [out, HI.out, HJ.out] using Own.nil, Below.refl _ _⟩
  · have HI := Lib.hid hi
    clear hi
    go_enter Try.func24, Try.ntmps24
    go_wp2_with (go_at_call 40; ((with_reducible refine (calls_bool (l01In_any _ _ _ _) HI.out).mono ?_); rintro e w' ⟨rfl, rfl⟩))
    go_ret2
    exact ⟨.slice none 0 0, by simp [code, HI.out], by simpa [out, HI.out] using Own.nil, Below.refl _ _⟩
set_option maxHeartbeats 1000000 in
theorem impl_any {n r : Int} {w : World} : Calls Try.prog 25 #[.int .i64 n, .int .i64 r] w (RetIC (out n r) (code n r) w) := by
  rcases Bool.eq_false_or_eq_true (inB n 1 6) with hi | hi
  · obtain ⟨n0, n1⟩ := inB_iff.1 hi
    obtain ⟨m, rfl⟩ : ∃ m : Nat, n = m := ⟨n.toNat, by omega⟩
    have hm : m ≤ 6 := by omega
    have HI := Lib.hid hi
    have hf := factZ_bd n1
    clear hi
    rcases Bool.eq_false_or_eq_true (inB r 0 (factZ m - 1)) with hj | hj
    · obtain ⟨h0, h1⟩ := inB_iff.1 hj
      have HJ := Lib.hid hj
      have h2 : r < factZ m := by omega
      clear hj h1
      go_enter Try.func25, Try.ntmps25
      go_wp2_with (first | (go_at_call 42; ((with_reducible refine (calls_bool (within_any _ _ _ _) HI.out).mono ?_); rintro e w' ⟨rfl, rfl⟩)) | (go_at_call 42; ((with_reducible refine (calls_bool (within_any _ _ _ _) HJ.out).mono ?_); rintro e w' ⟨rfl, rfl⟩)) | (go_at_call 53; ((with_reducible refine (factorial_int _ _ (by omega) (by omega)).mono ?_); rintro e w' ⟨rfl, rfl⟩)))
      go_wp2_with (go_at_call 54; with_reducible refine (withRank_any m r _ hm h0 h2).mono ?_)
      rintro _ w1 ⟨v1, rfl, o1, hb1⟩
      go_wp2
      go_ret2
      exact ⟨v1, by simp [code, HI.out, HJ.out], by simpa [out, HI.out, HJ.out] using o1, hb1⟩
    · have HJ := Lib.hid hj
      clear hj
      go_enter Try.func25, Try.ntmps25
      go_wp2_with (first | (go_at_call 42; ((with_reducible refine (calls_bool (within_any _ _ _ _) HI.out).mono ?_); rintro e w' ⟨rfl, rfl⟩)) | (go_at_call 42; ((with_reducible refine (calls_bool (within_any _ _ _ _) HJ.out).mono ?_); rintro e w' ⟨rfl, rfl⟩)) | (go_at_call 53; ((with_reducible refine (factorial_int _ _ (by omega) (by omega)).mono ?_); rintro e w' ⟨rfl, rfl⟩)))
      go_ret2
      exact ⟨.slice none 0 0, by simp [code, HI.out, HJ.out], by simpa [out, HI.out, HJ.out] using Own.nil, Below.refl _ _⟩
  · have HI := Lib.hid hi
    clear hi
    go_enter Try.func25, Try.ntmps25
    go_wp2_with (go_at_call 42; ((with_reducible refine (calls_bool (within_any _ _ _ _) HI.out).mono ?_); rintro e w' ⟨rfl, rfl⟩))
    go_ret2
    exact ⟨.slice none 0 0, by simp [code, HI.out], by simpa [out, HI.out] using Own.nil, Below.refl _ _⟩
end permutationWith

namespace inversePermutation
def out (zs : List Int) : List Int := if permB zs then invL zs else []
def code (zs : List Int) : Int := if permB zs then 0 else 1
set_option maxHeartbeats 1000000 in
theorem spec_any {v : Value} {zs : List Int} {w : World} (h : Reads w v zs) : Calls Try.prog 18 #[v] w (RetIC (out zs) (code zs) w) := by
  have HR := Lib.hid h
  rcases Bool.eq_false_or_eq_true (permB zs) with hp | hp
  · have HP := Lib.hid hp; clear hp h
    go_enter Try.func18, Try.ntmps18
    go_wp2_with (go_at_call 12; with_reducible refine (calls_bool (sIsPermutation_any HR.out) HP.out).mono ?_)
    rintro _ w1 ⟨rfl, hb1⟩
    go_wp2_with (go_at_call 47; with_reducible refine (l21Inverse_any (HR.out.step hb1) HP.out).mono ?_)
    rintro _ w2 ⟨v2, rfl, o2, hb2⟩
    go_wp2
    go_ret2
    exact ⟨v2, by simp [code, HP.out], by simpa [out, HP.out] using o2.mono hb1.size, hb1.trans (hb2.mono hb1.size)⟩
  · have HP := Lib.hid hp; clear hp h
    go_enter Try.func18, Try.ntmps18
    go_wp2_with (go_at_call 12; with_reducible refine (calls_bool (sIsPermutation_any HR.out) HP.out).mono ?_)
    rintro _ w1 ⟨rfl, hb1⟩
    go_wp2
    go_ret2
    exact ⟨.slice none 0 0, by simp [code, HP.out], by simpa [out, HP.out] using Own.nil, hb1⟩
set_option maxHeartbeats 1000000 in
theorem impl_any {v : Value} {zs : List Int} {w : World} (h : Reads w v zs) : Calls Try.prog 19 #[v] w (RetIC (out zs) (code zs) w) := by
  have HR := Lib.hid h
  rcases Bool.eq_false_or_eq_true (permB zs) with hp | hp
  · have HP := Lib.hid hp; clear hp h
    go_enter Try.func19, Try.ntmps19
    go_wp2_with (go_at_call 14; with_reducible refine (calls_bool (IsPermutation_any HR.out) HP.out).mono ?_)
    rintro _ _ ⟨rfl, rfl⟩
    go_wp2_with (go_at_call 48; with_reducible refine (opposite_any HR.out HP.out).mono ?_)
    rintro _ w2 ⟨v2, rfl, o2, hb2⟩
    go_wp2
    go_ret2
    exact ⟨v2, by simp [code, HP.out], by simpa [out, HP.out] using o2, hb2⟩
  · have HP := Lib.hid hp; clear hp h
    go_enter Try.func19, Try.ntmps19
    go_wp2_with (go_at_call 14; with_reducible refine (calls_bool (IsPermutation_any HR.out) HP.out).mono ?_)
    rintro _ _ ⟨rfl, rfl⟩
    go_wp2
    go_ret2
    exact ⟨.slice none 0 0, by simp [code, HP.out], by simpa [out, HP.out] using Own.nil, Below.refl _ _⟩
end inversePermutation

namespace rankOf
def val (zs : List Int) : Int := if permB zs then rankL zs else 0
def code (zs : List Int) : Int := if permB zs then 0 else 1
set_option maxHeartbeats 1000000 in
theorem spec_any {v : Value} {zs : List Int} {w : World} (h : Reads w v zs) : Calls Try.prog 16 #[v] w fun e w' => e = .returned (.tuple #[.int .i64 (val zs), .int .i64 (code zs)]) ∧ Below w.heap.size w w' := by
  have HR := Lib.hid h
  rcases Bool.eq_false_or_eq_true (permB zs) with hp | hp
  · have HP := Lib.hid hp; clear hp h
    go_enter Try.func16, Try.ntmps16
    go_wp2_with (go_at_call 12; with_reducible refine (calls_bool (sIsPermutation_any HR.out) HP.out).mono ?_)
    rintro _ w1 ⟨rfl, hb1⟩
    go_wp2_with (go_at_call 45; with_reducible refine (l21Rank_any (HR.out.step hb1) HP.out).mono ?_)
    rintro _ w2 ⟨rfl, hb2⟩
    go_wp2
    go_ret2
    exact ⟨ret2 (by simp [val, HP.out]) (by simp [code, HP.out]), hb1.trans (hb2.mono hb1.size)⟩
  · have HP := Lib.hid hp; clear hp h
    go_enter Try.func16, Try.ntmps16
    go_wp2_with (go_at_call 12; with_reducible refine (calls_bool (sIsPermutation_any HR.out) HP.out).mono ?_)
    rintro _ w1 ⟨rfl, hb1⟩
    go_wp2
    go_ret2
    exact ⟨ret2 (by simp [val, HP.out]) (by simp [code, HP.out]), hb1⟩
set_option maxHeartbeats 1000000 in
theorem impl_any {v : Value} {zs : List Int} {w : World} (h : Reads w v zs) : Calls Try.prog 17 #[v] w fun e w' => e = .returned (.tuple #[.int .i64 (val zs), .int .i64 (code zs)]) ∧ w = w' := by
  have HR := Lib.hid h
  rcases Bool.eq_false_or_eq_true (permB zs) with hp | hp
  · have HP := Lib.hid hp; clear hp h
    go_enter Try.func17, Try.ntmps17
    go_wp2_with (go_at_call 14; with_reducible refine (calls_bool (IsPermutation_any HR.out) HP.out).mono ?_)
    rintro _ _ ⟨rfl, rfl⟩
    go_wp2_with (go_at_call 46; with_reducible refine (rank_any HR.out HP.out).mono ?_)
    rintro _ _ ⟨rfl, rfl⟩
    go_wp2
    go_ret2
    exact ⟨ret2 (by simp [val, HP.out]) (by simp [code, HP.out]), rfl⟩
  · have HP := Lib.hid hp; clear hp h
    go_enter Try.func17, Try.ntmps17
    go_wp2_with (go_at_call 14; with_reducible refine (calls_bool (IsPermutation_any HR.out) HP.out).mono ?_)
    rintro _ _ ⟨rfl, rfl⟩
    go_wp2
    go_ret2
    exact ⟨ret2 (by simp [val, HP.out]) (by simp [code, HP.out]), rfl⟩
end rankOf

namespace signOf
def val (zs : List Int) : Int := if permB zs then signL zs else 0
def code (zs : List Int) : Int := if permB zs then 0 else 1
set_option maxHeartbeats 1000000 in
theorem spec_any {v : Value} {zs : List Int} {w : World} (h : Reads w v zs) : Calls Try.prog 26 #[v] w fun e w' => e = .returned (.tuple #[.int .i64 (val zs), .int .i64 (code zs)]) ∧ Below w.heap.size w w' := by
  have HR := Lib.hid h
  rcases Bool.eq_false_or_eq_true (permB zs) with hp | hp
  · have HP := Lib.hid hp; clear hp h
    go_enter Try.func26, Try.ntmps26
    go_wp2_with (go_at_call 12; with_reducible refine (calls_bool (sIsPermutation_any HR.out) HP.out).mono ?_)
    rintro _ w1 ⟨rfl, hb1⟩
    go_wp2_with (go_at_call 55; with_reducible refine (l21Sign_any (HR.out.step hb1) HP.out).mono ?_)
    rintro _ w2 ⟨rfl, hb2⟩
    go_wp2
    go_ret2
    exact ⟨ret2 (by simp [val, HP.out]) (by simp [code, HP.out]), hb1.trans (hb2.mono hb1.size)⟩
  · have HP := Lib.hid hp; clear hp h
    go_enter Try.func26, Try.ntmps26
    go_wp2_with (go_at_call 12; with_reducible refine (calls_bool (sIsPermutation_any HR.out) HP.out).mono ?_)
    rintro _ w1 ⟨rfl, hb1⟩
    go_wp2
    go_ret2
    exact ⟨ret2 (by simp [val, HP.out]) (by simp [code, HP.out]), hb1⟩
set_option maxHeartbeats 1000000 in
theorem impl_any {v : Value} {zs : List Int} {w : World} (h : Reads w v zs) : Calls Try.prog 27 #[v] w fun e w' => e = .returned (.tuple #[.int .i64 (val zs), .int .i64 (code zs)]) ∧ Below w.heap.size w w' := by
  have HR := Lib.hid h
  rcases Bool.eq_false_or_eq_true (permB zs) with hp | hp
  · have HP := Lib.hid hp; clear hp h
    go_enter Try.func27, Try.ntmps27
    go_wp2_with (go_at_call 14; with_reducible refine (calls_bool (IsPermutation_any HR.out) HP.out).mono ?_)
    rintro _ _ ⟨rfl, rfl⟩
    go_wp2_with (go_at_call 56; with_reducible refine (parity_any HR.out HP.out).mono ?_)
    rintro _ w2 ⟨rfl, hb2⟩
    go_wp2
    go_ret2
    exact ⟨ret2 (by simp [val, HP.out]) (by simp [code, HP.out]), hb2⟩
  · have HP := Lib.hid hp; clear hp h
    go_enter Try.func27, Try.ntmps27
    go_wp2_with (go_at_call 14; with_reducible refine (calls_bool (IsPermutation_any HR.out) HP.out).mono ?_)
    rintro _ _ ⟨rfl, rfl⟩
    go_wp2
    go_ret2
    exact ⟨ret2 (by simp [val, HP.out]) (by simp [code, HP.out]), Below.refl _ _⟩
end signOf

end Go.Proofs.Ytdgigkbfekbkkaa
