/- Contracts: quotients and common divisors by a prime. -/
import Derived.Test.YtelpnpfmedlklaaOj
import Derived.Test.YtelpnpfmedlklaaD
namespace Go.Proofs.Ytelpnpfmedlklaa
open Go.RowKit
set_option linter.unusedVariables false
set_option linter.unusedSimpArgs false

/-- Two new slices and a code. -/
def RetQRC (Q R : List Int) (c : Int) (w : World) (e : Ending) (w' : World) : Prop := ∃ v1 v2 w1, e = .returned (.tuple #[v1, v2, .int .i64 c]) ∧ Q.length ≤ 1000000 ∧ R.length ≤ 1000000 ∧ Own w1 w.heap.size v1 Q ∧ Below w.heap.size w w1 ∧ Own w' w1.heap.size v2 R ∧ Below w1.heap.size w1 w'
def twoC (p : Int) (f g : List Int) : Int := if modlB p f then if modlB p g then if g.length = 0 then 5 else 0 else 1 else 1
def quoQ (p : Int) (f g : List Int) : List Int := quoL p (invV p (el g (g.length - 1))) f g
def remR (p : Int) (f g : List Int) : List Int := remL p (invV p (el g (g.length - 1))) f g
def dmQ (p : Int) (f g : List Int) : List Int := if twoC p f g = 0 then quoQ p f g else []
def dmR (p : Int) (f g : List Int) : List Int := if twoC p f g = 0 then remR p f g else []
theorem quo_len (p v : Int) (f g : List Int) : (quoL p v f g).length ≤ divN f g := by
  have := trimL_le (divS p v f g (divN f g) (divN f g)).1
  rw [(divS_len p v f g _ _).1] at this
  exact this
theorem rem_len (p v : Int) (f g : List Int) : (remL p v f g).length ≤ f.length := by
  have := trimL_le (divS p v f g (divN f g) (divN f g)).2
  rw [(divS_len p v f g _ _).2] at this
  exact this
theorem modl_in {p : Int} {f : List Int} (h : modlB p f = true) : 2 ≤ p ∧ p ≤ 97 ∧ smallB p = true ∧ f.length ≤ 9 ∧ In p f := by
  obtain ⟨h1, h2, h3, h4⟩ := modlB_bd h
  have hp := small_bd h1
  exact ⟨hp.1, hp.2, h1, h2, In.of (by omega) h3⟩

theorem two_ok {p : Int} {f g : List Int} (h : twoC p f g = 0) : modlB p f = true ∧ modlB p g = true ∧ 0 < g.length := by
  unfold twoC at h
  by_cases h1 : modlB p f = true
  · rw [if_pos h1] at h
    by_cases h2 : modlB p g = true
    · rw [if_pos h2] at h
      by_cases h3 : g.length = 0
      · rw [if_pos h3] at h; cases h
      · exact ⟨h1, h2, by omega⟩
    · rw [if_neg h2] at h; cases h
  · rw [if_neg h1] at h; cases h

end Go.Proofs.Ytelpnpfmedlklaa
