/- Contracts: quotients and remainders by a prime. -/
import Derived.Test.YtelpnpfmedlklaaOg
import Derived.Test.YtelpnpfmedlklaaOi
namespace Go.Proofs.Ytelpnpfmedlklaa
open Go.RowKit
set_option linter.unusedVariables false
set_option linter.unusedSimpArgs false

/-- Two new slices come back, the second made behind the first. -/
def RetQR (Q R : List Int) (w : World) (e : Ending) (w' : World) : Prop := ∃ v1 v2 w1, e = .returned (.tuple #[v1, v2]) ∧ Own w1 w.heap.size v1 Q ∧ Below w.heap.size w w1 ∧ Own w' w1.heap.size v2 R ∧ Below w1.heap.size w1 w'
theorem divS_step {p v : Int} {f g : List Int} {N i j m : Nat} (h : i + j + 1 = N) (hm : g.length = m + 1) :
    (divS p v f g N (j + 1)).1 = (divS p v f g N j).1.set i (el (divS p v f g N j).2 (i + m) * v % p) ∧
    (divS p v f g N (j + 1)).2 = subR p (el (divS p v f g N j).2 (i + m) * v % p) g i (divS p v f g N j).2 (m + 1) := by
  have e1 : N - 1 - j = i := by omega
  have e2 : i + (m + 1) - 1 = i + m := by omega
  simp only [divS, e1, hm, e2, and_self]
theorem ring_p1 {p : Int} (hs : smallB p = true) : ringB p 1 = true := by
  have hp := small_bd hs
  have h : ∀ P : Fin 98, smallB (P.val : Int) = true → ringB P.val 1 = true := by decide +kernel
  have e : ((p.toNat : Nat) : Int) = p := by omega
  have h1 := h ⟨p.toNat, by omega⟩
  simp only [e] at h1
  exact h1 hs
theorem inv_in {p a : Int} (hp : 1 ≤ p) : 0 ≤ invV p a ∧ invV p a < p := emod_in _ hp


end Go.Proofs.Ytelpnpfmedlklaa
