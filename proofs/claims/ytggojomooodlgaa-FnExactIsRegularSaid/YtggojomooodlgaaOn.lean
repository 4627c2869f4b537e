/- Contracts: IsSquareFree and PowerOfX. -/
import Derived.Test.YtggojomooodlgaaOm
namespace Go.Proofs.Ytggojomooodlgaa
open Go.RowKit
set_option linter.unusedVariables false
set_option linter.unusedSimpArgs false

def sqfB (p : Int) (f : List Int) : Bool := modlB p f && decide ((comL p f (derP p f)).length = 1)
def sqfC (p : Int) (f : List Int) : Int := if modlB p f then 0 else 1
theorem len_one {n : Nat} : ((n : Int) == 1) = decide (n = 1) := by
  rw [Bool.eq_iff_iff]; simp; omega
theorem derP_facts {p : Int} {f : List Int} (hp : 2 ≤ p ∧ p ≤ 97) (hl : f.length ≤ 9) : (derP p f).length ≤ 9 ∧ In p (derP p f) ∧ Tidy (derP p f) ∧ (derL f).length ≤ 9 := by
  have h1 := redL_len p (derL f)
  have h2 := derL_len f
  exact ⟨by unfold derP; omega, redL_in (by omega) _, trimL_tidy _, by omega⟩
theorem com_nil (p : Int) : comL p [] (derP p []) = [] := by
  have : derP p [] = [] := by simp [derP, derL, redL, trimL, trimN]
  rw [this, comL]
  simp [comG, monL]
theorem l08Derivative_any {p : Int} {v : Value} {f : List Int} {w : World} (h : Reads w v f) (hd : Bd 97 f) (hp : 2 ≤ p ∧ p ≤ 97) (hl : f.length ≤ 900) :
    Calls Try.prog 52 #[.int .i64 p, v] w (RetInts (derP p f) w) := by
  have HA := Lib.hid h
  have hl2 := derL_len f
  clear h
  go_enter Try.func52, Try.ntmps52
  go_wp2_with (go_at_call 60; with_reducible refine (l06Derivative_any HA.out hd ⟨by omega, by omega⟩ hl).mono ?_)
  rintro _ w2 ⟨v2, rfl, o2, hb2⟩
  go_wp2_with (go_at_call 59; with_reducible refine (l08Reduce_any o2.reads ⟨by omega, by omega⟩ (by omega)).mono ?_)
  rintro _ w3 ⟨v3, rfl, o3, hb3⟩
  go_wp2
  go_ret
  exact ⟨v3, rfl, o3.mono hb2.size, hb2.trans (hb3.mono hb2.size)⟩
set_option maxHeartbeats 2000000 in
theorem sIsSquareFree_any {p : Int} {v : Value} {f : List Int} {w : World} (h : Reads w v f) :
    Calls Try.prog 37 #[.int .i64 p, v] w fun e w' => e = .returned (.tuple #[.bool (sqfB p f), .int .i64 (sqfC p f)]) ∧ Below w.heap.size w w' := by
  obtain ⟨a, cap, rfl, k1, k2⟩ := reads_nil_eq h
  obtain ⟨n, hn⟩ : ∃ n, f.length = n := ⟨_, rfl⟩
  rw [hn] at h k1 ⊢
  have HA := Lib.hid h
  have HN := Lib.hid hn
  clear h k2 hn
  rcases Bool.eq_false_or_eq_true (modlB p f) with hp | hp
  · have HP := Lib.hid hp
    obtain ⟨p1, p2, ps, l1, i1⟩ := modl_in hp
    obtain ⟨d1, d2, d3, d4⟩ := derP_facts (f := f) ⟨p1, p2⟩ l1
    have HD := Lib.hid (derL_in p2 i1)
    have HI := Lib.hid i1
    have HD2 := Lib.hid d2
    have HD3 := Lib.hid d3
    have HL1 := Lib.hid l1
    clear hp d2 d3 i1 l1
    by_cases h0 : n = 0
    · have hf : f = [] := List.length_eq_zero_iff.1 (by rw [HN.out]; exact h0)
      have HF := Lib.hid hf
      subst h0
      clear hf
      go_enter Try.func37, Try.ntmps37
      go_wp2_with (go_at_call 50; ((with_reducible refine (calls_bool (sIsModular_any HA.out) HP.out).mono ?_); rintro e w' ⟨rfl, rfl⟩))
      go_ret2
      exact ⟨by simp [sqfB, sqfC, HF.out, com_nil] ; (have := HP.out; rw [HF.out] at this; exact this), Below.refl _ _⟩
    · have hn1 : 0 < n := by omega
      go_enter Try.func37, Try.ntmps37
      go_wp2_with (first | (go_at_call 50; ((with_reducible refine (calls_bool (sIsModular_any HA.out) HP.out).mono ?_); rintro e w' ⟨rfl, rfl⟩)) | (go_at_call 52; with_reducible refine (l08Derivative_any HA.out HD.out ⟨p1, p2⟩ (by have := HL1.out; omega)).mono ?_))
      rintro _ w3 ⟨v3, rfl, o3, hb3⟩
      go_wp2_with (go_at_call 51; with_reducible refine (l08Common_any (HA.out.step hb3) o3.reads HI.out HD2.out ps (by have := HL1.out; omega) (by omega) HD3.out).mono ?_)
      rintro _ w4 ⟨v4, rfl, o4, hb4⟩
      obtain ⟨a4, c4, rfl, _, _⟩ := reads_nil_eq o4.reads
      go_wp2
      go_ret2
      exact ⟨by simp [sqfB, sqfC, HP.out, len_one], hb3.trans (hb4.mono hb3.size)⟩
  · have HP := Lib.hid hp
    clear hp
    go_enter Try.func37, Try.ntmps37
    go_wp2_with (go_at_call 50; ((with_reducible refine (calls_bool (sIsModular_any HA.out) HP.out).mono ?_); rintro e w' ⟨rfl, rfl⟩))
    go_ret2
    exact ⟨by simp [sqfB, sqfC, HP.out], Below.refl _ _⟩

/-! ### powers of x -/
def pxC (p e : Int) (f : List Int) : Int := if modlB p f then if inB e 0 1000000000000 then if f.length = 0 then 5 else 0 else 2 else 1
def pxL (p e : Int) (f : List Int) : List Int := if pxC p e f = 0 then powL p [0, 1] e f else []
theorem reads_two (w : World) (x y : Int) : Reads (w.alloc (.cells #[.int .i64 x, .int .i64 y] 2)) (.slice (some ⟨w.heap.size, 0, none⟩) 2 2) [x, y] := by
  refine ⟨by simp, _, 2, rfl, by simp, by simp [maxLen], fun _ => ⟨_, _, rfl, by simp, fun i hi => ?_⟩⟩
  have : i = 0 ∨ i = 1 := by simp at hi; omega
  rcases this with rfl | rfl <;> simp [el]
theorem in_x {p : Int} (hp : 2 ≤ p) : In p [0, 1] := In.of (by omega) (by intro y hy; simp at hy; omega)
end Go.Proofs.Ytggojomooodlgaa
