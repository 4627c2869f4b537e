/- Contracts: IsSquareFree and PowerOfX. -/
import Derived.Test.YtelpnpfmedlklaaOm
namespace Go.Proofs.Ytelpnpfmedlklaa
open Go.RowKit
set_option linter.unusedVariables false
set_option linter.unusedSimpArgs false

def sqfB (p : Int) (f : List Int) : Bool := modlB p f && decide ((comL p f (derP p f)).length = 1)
def sqfC (p : Int) (f : List Int) : Int := if modlB p f then 0 else 1
theorem len_one {n : Nat} : ((n : Int) == 1) = decide (n = 1) := by
  rw [Bool.eq_iff_iff]; simp; omega
theorem derP_facts {p : Int} {f : List Int} (hp : 2 ≤ p ∧ p ≤ 97) (hl : f.length ≤ 9) : (derP p f).length ≤ 9 ∧ In p (derP p f) ∧ Tidy (derP p f) ∧ (derL f).length ≤ 9 := by
  have h1 := redL_len p (derL f)
  have h2 := derL_len f
  exact ⟨by unfold derP; omega, redL_in (by omega) _, trimL_tidy _, by omega⟩
theorem com_nil (p : Int) : comL p [] (derP p []) = [] := by
  have : derP p [] = [] := by simp [derP, derL, redL, trimL, trimN]
  rw [this, comL]
  simp [comG, monL]
def pxC (p e : Int) (f : List Int) : Int := if modlB p f then if inB e 0 1000000000000 then if f.length = 0 then 5 else 0 else 2 else 1
def pxL (p e : Int) (f : List Int) : List Int := if pxC p e f = 0 then powL p [0, 1] e f else []
theorem reads_two (w : World) (x y : Int) : Reads (w.alloc (.cells #[.int .i64 x, .int .i64 y] 2)) (.slice (some ⟨w.heap.size, 0, none⟩) 2 2) [x, y] := by
  refine ⟨by simp, _, 2, rfl, by simp, by simp [maxLen], fun _ => ⟨_, _, rfl, by simp, fun i hi => ?_⟩⟩
  have : i = 0 ∨ i = 1 := by simp at hi; omega
  rcases this with rfl | rfl <;> simp [el]
theorem in_x {p : Int} (hp : 2 ≤ p) : In p [0, 1] := In.of (by omega) (by intro y hy; simp at hy; omega)
end Go.Proofs.Ytelpnpfmedlklaa
