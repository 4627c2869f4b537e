/- Contracts of three top functions that the law on cycles calls (the same as in the single laws' texts). -/
import Derived.Test.YtaielmibofnddaaX
import Derived.Test.YtaielmibofnddaaPc
import Derived.Test.YtaielmibofnddaaV
namespace Go.Proofs.Ytaielmibofnddaa
open Go.RowKit
set_option linter.unusedVariables false
set_option linter.unusedSimpArgs false

namespace productOfTwo
def good (xs ys : List Int) : Bool := permB xs && permB ys
def out (xs ys : List Int) : List Int := if permB xs then if permB ys then if xs.length = ys.length then prodL xs ys else [] else [] else []
def code (xs ys : List Int) : Int := if permB xs then if permB ys then if xs.length = ys.length then 0 else 5 else 1 else 1
set_option maxHeartbeats 1000000 in
theorem impl_any {v u : Value} {xs ys : List Int} {w : World} (h : Reads w v xs) (h' : Reads w u ys) : Calls Try.prog 19 #[v, u] w (RetIC (out xs ys) (code xs ys) w) := by
  have HA := Lib.hid h
  have HB := Lib.hid h'
  obtain ⟨hL, a, cap, rfl, hcap, hmax, hcell⟩ := h
  obtain ⟨hL', a', cap', rfl, hcap', hmax', hcell'⟩ := h'
  clear hcell hcell'
  rcases Bool.eq_false_or_eq_true (permB xs) with hp | hp
  · have HP := Lib.hid hp; clear hp
    rcases Bool.eq_false_or_eq_true (permB ys) with hq | hq
    · have HQ := Lib.hid hq; clear hq
      by_cases hl : xs.length = ys.length
      · have HL := Lib.hid hl
        have hne : ((xs.length : Int) != (ys.length : Int)) = false := by simp [hl]
        have hne2 : ((xs.length : Int) == (ys.length : Int)) = true := by simp [hl]
        clear hl
        go_enter Try.func19, Try.ntmps19
        go_wp2_with (go_at_call 23; with_reducible refine (calls_bool (IsPermutation_any HA.out) HP.out).mono ?_)
        rintro _ _ ⟨rfl, rfl⟩
        go_wp2_with (go_at_call 23; with_reducible refine (calls_bool (IsPermutation_any HB.out) HQ.out).mono ?_)
        rintro _ _ ⟨rfl, rfl⟩
        go_wp2_with (go_at_call 40; with_reducible refine (product_any HA.out HB.out (by rw [HL.out]; exact (permB_bd HQ.out).2.2)).mono ?_)
        rintro _ w3 ⟨v3, rfl, o3, hb3⟩
        go_wp2
        go_ret2
        exact ⟨v3, by simp [code, HP.out, HQ.out, HL.out], by simpa [out, HP.out, HQ.out, HL.out] using o3.mono (Below.refl w.heap.size w).size, (Below.refl w.heap.size w).trans (hb3.mono (Below.refl w.heap.size w).size)⟩
      · have HL := Lib.hid hl
        have hne : ((xs.length : Int) != (ys.length : Int)) = true := by simp; omega
        have hne2 : ((xs.length : Int) == (ys.length : Int)) = false := by simp; omega
        clear hl
        go_enter Try.func19, Try.ntmps19
        go_wp2_with (go_at_call 23; with_reducible refine (calls_bool (IsPermutation_any HA.out) HP.out).mono ?_)
        rintro _ _ ⟨rfl, rfl⟩
        go_wp2_with (go_at_call 23; with_reducible refine (calls_bool (IsPermutation_any HB.out) HQ.out).mono ?_)
        rintro _ _ ⟨rfl, rfl⟩
        go_wp2
        go_ret2
        exact ⟨.slice none 0 0, by simp [code, HP.out, HQ.out, HL.out], by simpa [out, HP.out, HQ.out, HL.out] using Own.nil, (Below.refl w.heap.size w)⟩
    · have HQ := Lib.hid hq; clear hq
      go_enter Try.func19, Try.ntmps19
      go_wp2_with (go_at_call 23; with_reducible refine (calls_bool (IsPermutation_any HA.out) HP.out).mono ?_)
      rintro _ _ ⟨rfl, rfl⟩
      go_wp2_with (go_at_call 23; with_reducible refine (calls_bool (IsPermutation_any HB.out) HQ.out).mono ?_)
      rintro _ _ ⟨rfl, rfl⟩
      go_wp2
      go_ret2
      exact ⟨.slice none 0 0, by simp [code, HP.out, HQ.out], by simpa [out, HP.out, HQ.out] using Own.nil, (Below.refl w.heap.size w)⟩
  · have HP := Lib.hid hp; clear hp
    go_enter Try.func19, Try.ntmps19
    go_wp2_with (go_at_call 23; with_reducible refine (calls_bool (IsPermutation_any HA.out) HP.out).mono ?_)
    rintro _ _ ⟨rfl, rfl⟩
    go_wp2
    go_ret2
    exact ⟨.slice none 0 0, by simp [code, HP.out], by simpa [out, HP.out] using Own.nil, (Below.refl w.heap.size w)⟩
end productOfTwo

namespace rankOf
def val (zs : List Int) : Int := if permB zs then rankL zs else 0
def code (zs : List Int) : Int := if permB zs then 0 else 1
set_option maxHeartbeats 1000000 in
theorem spec_any {v : Value} {zs : List Int} {w : World} (h : Reads w v zs) : Calls Try.prog 13 #[v] w fun e w' => e = .returned (.tuple #[.int .i64 (val zs), .int .i64 (code zs)]) ∧ Below w.heap.size w w' := by
  have HR := Lib.hid h
  rcases Bool.eq_false_or_eq_true (permB zs) with hp | hp
  · have HP := Lib.hid hp; clear hp h
    go_enter Try.func13, Try.ntmps13
    go_wp2_with (go_at_call 25; with_reducible refine (calls_bool (sIsPermutation_any HR.out) HP.out).mono ?_)
    rintro _ w1 ⟨rfl, hb1⟩
    go_wp2_with (go_at_call 32; with_reducible refine (l21Rank_any (HR.out.step hb1) HP.out).mono ?_)
    rintro _ w2 ⟨rfl, hb2⟩
    go_wp2
    go_ret2
    exact ⟨ret2 (by simp [val, HP.out]) (by simp [code, HP.out]), hb1.trans (hb2.mono hb1.size)⟩
  · have HP := Lib.hid hp; clear hp h
    go_enter Try.func13, Try.ntmps13
    go_wp2_with (go_at_call 25; with_reducible refine (calls_bool (sIsPermutation_any HR.out) HP.out).mono ?_)
    rintro _ w1 ⟨rfl, hb1⟩
    go_wp2
    go_ret2
    exact ⟨ret2 (by simp [val, HP.out]) (by simp [code, HP.out]), hb1⟩
set_option maxHeartbeats 1000000 in
theorem impl_any {v : Value} {zs : List Int} {w : World} (h : Reads w v zs) : Calls Try.prog 12 #[v] w fun e w' => e = .returned (.tuple #[.int .i64 (val zs), .int .i64 (code zs)]) ∧ w = w' := by
  have HR := Lib.hid h
  rcases Bool.eq_false_or_eq_true (permB zs) with hp | hp
  · have HP := Lib.hid hp; clear hp h
    go_enter Try.func12, Try.ntmps12
    go_wp2_with (go_at_call 23; with_reducible refine (calls_bool (IsPermutation_any HR.out) HP.out).mono ?_)
    rintro _ _ ⟨rfl, rfl⟩
    go_wp2_with (go_at_call 31; with_reducible refine (rank_any HR.out HP.out).mono ?_)
    rintro _ _ ⟨rfl, rfl⟩
    go_wp2
    go_ret2
    exact ⟨ret2 (by simp [val, HP.out]) (by simp [code, HP.out]), rfl⟩
  · have HP := Lib.hid hp; clear hp h
    go_enter Try.func12, Try.ntmps12
    go_wp2_with (go_at_call 23; with_reducible refine (calls_bool (IsPermutation_any HR.out) HP.out).mono ?_)
    rintro _ _ ⟨rfl, rfl⟩
    go_wp2
    go_ret2
    exact ⟨ret2 (by simp [val, HP.out]) (by simp [code, HP.out]), rfl⟩
end rankOf

namespace signOf
def val (zs : List Int) : Int := if permB zs then signL zs else 0
def code (zs : List Int) : Int := if permB zs then 0 else 1
set_option maxHeartbeats 1000000 in
theorem spec_any {v : Value} {zs : List Int} {w : World} (h : Reads w v zs) : Calls Try.prog 11 #[v] w fun e w' => e = .returned (.tuple #[.int .i64 (val zs), .int .i64 (code zs)]) ∧ Below w.heap.size w w' := by
  have HR := Lib.hid h
  rcases Bool.eq_false_or_eq_true (permB zs) with hp | hp
  · have HP := Lib.hid hp; clear hp h
    go_enter Try.func11, Try.ntmps11
    go_wp2_with (go_at_call 25; with_reducible refine (calls_bool (sIsPermutation_any HR.out) HP.out).mono ?_)
    rintro _ w1 ⟨rfl, hb1⟩
    go_wp2_with (go_at_call 30; with_reducible refine (l21Sign_any (HR.out.step hb1) HP.out).mono ?_)
    rintro _ w2 ⟨rfl, hb2⟩
    go_wp2
    go_ret2
    exact ⟨ret2 (by simp [val, HP.out]) (by simp [code, HP.out]), hb1.trans (hb2.mono hb1.size)⟩
  · have HP := Lib.hid hp; clear hp h
    go_enter Try.func11, Try.ntmps11
    go_wp2_with (go_at_call 25; with_reducible refine (calls_bool (sIsPermutation_any HR.out) HP.out).mono ?_)
    rintro _ w1 ⟨rfl, hb1⟩
    go_wp2
    go_ret2
    exact ⟨ret2 (by simp [val, HP.out]) (by simp [code, HP.out]), hb1⟩
set_option maxHeartbeats 1000000 in
theorem impl_any {v : Value} {zs : List Int} {w : World} (h : Reads w v zs) : Calls Try.prog 10 #[v] w fun e w' => e = .returned (.tuple #[.int .i64 (val zs), .int .i64 (code zs)]) ∧ Below w.heap.size w w' := by
  have HR := Lib.hid h
  rcases Bool.eq_false_or_eq_true (permB zs) with hp | hp
  · have HP := Lib.hid hp; clear hp h
    go_enter Try.func10, Try.ntmps10
    go_wp2_with (go_at_call 23; with_reducible refine (calls_bool (IsPermutation_any HR.out) HP.out).mono ?_)
    rintro _ _ ⟨rfl, rfl⟩
    go_wp2_with (go_at_call 29; with_reducible refine (parity_any HR.out HP.out).mono ?_)
    rintro _ w2 ⟨rfl, hb2⟩
    go_wp2
    go_ret2
    exact ⟨ret2 (by simp [val, HP.out]) (by simp [code, HP.out]), hb2⟩
  · have HP := Lib.hid hp; clear hp h
    go_enter Try.func10, Try.ntmps10
    go_wp2_with (go_at_call 23; with_reducible refine (calls_bool (IsPermutation_any HR.out) HP.out).mono ?_)
    rintro _ _ ⟨rfl, rfl⟩
    go_wp2
    go_ret2
    exact ⟨ret2 (by simp [val, HP.out]) (by simp [code, HP.out]), Below.refl _ _⟩
end signOf

end Go.Proofs.Ytaielmibofnddaa
