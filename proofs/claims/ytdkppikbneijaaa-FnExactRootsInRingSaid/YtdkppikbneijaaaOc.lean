/- Contracts: zeros cut off, tests on polynomials, remainders. -/
import Derived.Test.YtdkppikbneijaaaOb
namespace Go.Proofs.Ytdkppikbneijaaa
open Go.RowKit
set_option linter.unusedVariables false
set_option linter.unusedSimpArgs false

theorem Reads.at {w : World} {a : Option Addr} {n cap : Nat} {zs : List Int} (h : Reads w (.slice a n cap) zs) {k : Nat} (hk : k < zs.length) : ∃ b o, a = some ⟨b, o, none⟩ ∧ w.cell? ⟨b, o + k, none⟩ = some (.int .i64 (el zs k)) := by
  obtain ⟨_, a', cap', hv, _, _, hc⟩ := h
  injection hv with e1 _ _
  subst e1
  obtain ⟨b, o, rfl, _, h5⟩ := hc (by omega)
  exact ⟨b, o, rfl, h5 k hk⟩

theorem Reads.lt {w : World} {b o : Nat} {n cap : Nat} {zs : List Int} (h : Reads w (.slice (some ⟨b, o, none⟩) n cap) zs) (hk : 0 < zs.length) : b < w.heap.size := by
  obtain ⟨_, a', cap', hv, _, _, hc⟩ := h
  injection hv with e1 _ _
  subst e1
  obtain ⟨b', o', e, h4, _⟩ := hc hk
  injection e with e
  injection e with e2 _ _
  rw [e2]; exact h4

end Go.Proofs.Ytdkppikbneijaaa
