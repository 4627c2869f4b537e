/- A law's argument of factors, out of its cells. -/
import Derived.Test.YtelpnpfmedlklaaPe
namespace Go.Proofs.Ytelpnpfmedlklaa
open Go.RowKit
set_option linter.unusedVariables false
set_option linter.unusedSimpArgs false

theorem arow_nil {W : World} : ARow W (.slice none 0 0) 0 (fun _ => nilS) [] :=
  ⟨rfl, fun i hi => by omega, none, 0, rfl, by omega, by simp [maxLen], fun h => by omega, fun i hi => by omega⟩
theorem arow_of {W : World} {a : Addr} {len cap : Nat} {V0 V1 : Nat → Value} (hl : len ≤ cap) (hm : cap ≤ maxLen)
    (hc : ∀ i, i < len → W.cell? (a.add (i * 2)) = some (V0 i) ∧ W.cell? (a.add (i * 2 + 1)) = some (V1 i) ∧ (∃ t, V1 i = .int .i64 t ∧ -9223372036854775808 ≤ t ∧ t ≤ 9223372036854775807) ∧ (∃ a' l c z, V0 i = .slice a' l c ∧ l ≤ maxLen ∧ IsRow .i64 W a' l c z)) :
    ∃ U ts, ARow W (.slice (some a) len cap) len U ts := by
  obtain ⟨T, hT⟩ := Go.Deep.choose_lt (fun i hi => (hc i hi).2.2.1)
  have hel : ∀ i, i < len → el ((List.range len).map T) i = T i := fun i hi => by
    simp [el, List.getD_eq_getElem?_getD, List.getElem?_map, List.getElem?_range hi]
  refine ⟨V0, (List.range len).map T, by simp, fun i hi => by rw [hel i hi]; exact (hT i hi).2, some a, cap, rfl, hl, hm, fun hp => ?_, fun i hi => (hc i hi).2.2.2⟩
  obtain ⟨b, off, spot⟩ := a
  have h0 := (hc 0 hp).1
  have hspot : spot = none := by simpa [Addr.add] using World.cell?_spot h0
  subst hspot
  refine ⟨b, off, rfl, ?_, fun i hi => ?_⟩
  · apply Decidable.byContradiction
    intro hb
    have : W.heap[b]? = none := Array.getElem?_eq_none (by omega)
    simp [World.cell?, Addr.add, this] at h0
  · obtain ⟨x1, x2, _, _⟩ := hc i hi
    rw [Addr.add_lit] at x1 x2
    rw [hel i hi, ← (hT i hi).1]
    exact ⟨x1, by rw [← x2]; congr 1⟩

end Go.Proofs.Ytelpnpfmedlklaa
