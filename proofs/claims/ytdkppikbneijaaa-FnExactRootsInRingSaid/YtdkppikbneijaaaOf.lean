/- Contracts: remainders and products of polynomials. -/
import Derived.Test.YtdkppikbneijaaaOe
namespace Go.Proofs.Ytdkppikbneijaaa
open Go.RowKit
set_option linter.unusedVariables false
set_option linter.unusedSimpArgs false

theorem Reads.el_i64 {w : World} {v : Value} {f : List Int} (h : Reads w v f) : True := trivial
def redM (m : Int) (f : List Int) : List Int := f.map (· % m)
theorem redM_el {m : Int} {f : List Int} {k : Nat} (h : k < f.length) : el (redM m f) k = el f k % m := by
  simp only [redM, el, List.getD_eq_getElem?_getD, List.getElem?_map, List.getElem?_eq_getElem h]; rfl
theorem redM_len (m : Int) (f : List Int) : (redM m f).length = f.length := by simp [redM]
theorem take_next {l : List Int} {k : Nat} (h : k < l.length) : l.take k ++ [el l k] = l.take (k + 1) := by
  rw [List.take_add_one, el_get h]; rfl
theorem redM_next {m : Int} {f : List Int} {k : Nat} (h : k < f.length) : (redM m f).take k ++ [el f k % m] = (redM m f).take (k + 1) := by
  rw [← redM_el h, take_next (by rw [redM_len]; exact h)]
theorem redM_all {m : Int} {f : List Int} {k : Nat} (h : f.length ≤ k) : (redM m f).take k = redM m f := List.take_of_length_le (by rw [redM_len]; exact h)

end Go.Proofs.Ytdkppikbneijaaa
