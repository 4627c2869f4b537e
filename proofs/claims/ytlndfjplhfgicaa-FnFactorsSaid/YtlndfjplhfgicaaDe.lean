/- Contract: likePowers over equal lists. -/
import Derived.Test.YtlndfjplhfgicaaDd
import Derived.BigQuiet
namespace Go.Proofs.Ytlndfjplhfgicaa
open Go.RowKit
set_option linter.unusedVariables false
set_option linter.unusedSimpArgs false

set_option maxRecDepth 100000 in
set_option maxHeartbeats 4000000 in
theorem likePowers_same {v u : Value} {L : List (Int × Int)} {w : World} (h : PowReads w v L) (k : PowReads w u L) :
    Calls Try.prog 26 #[v, u] w fun e w' => e = .returned (.bool true) ∧ Below w.heap.size w w' := by
  obtain ⟨n, hn⟩ : ∃ n, n = L.length := ⟨_, rfl⟩
  have HN := Lib.hid hn
  have HR := Lib.hid h
  have HK := Lib.hid k
  obtain ⟨a1, cap1, rfl, hcap1, hmax1, _⟩ := h
  obtain ⟨a2, cap2, rfl, hcap2, hmax2, _⟩ := k
  rw [← hn] at hcap1 hcap2 HR HK
  rw [← hn]
  have hnb : n ≤ 9223372036854775807 := by unfold maxLen at hmax1; omega
  clear hn hmax1 hmax2
  go_enter Try.func26, Try.ntmps26
  go_wp2
  go_loopw [5] (fun c wr => ∃ i : Nat, c = .int .i64 (i : Int) ∧ i ≤ n ∧ Below w.heap.size w wr) (fun c _ => n - (intOf c).toNat)
  case atStart => exact ⟨0, rfl, by omega, Below.refl _ _⟩
  case round =>
    obtain ⟨i, rfl, hi, hb⟩ := hrel
    have HB := Lib.hid hb
    clear hb
    by_cases hlt : i < n
    · obtain ⟨g1, rfl, _, c1, c2⟩ := (HR.out.step HB.out).at (k := i) (by have := HN.out; omega)
      obtain ⟨g2, rfl, _, c3, c4⟩ := (HK.out.step HB.out).at (k := i) (by have := HN.out; omega)
      obtain ⟨x, hx⟩ : ∃ x, (pw L i).1 = x := ⟨_, rfl⟩
      obtain ⟨y, hy⟩ : ∃ y, (pw L i).2 = y := ⟨_, rfl⟩
      rw [hx] at c1 c3
      rw [hy] at c2 c4
      clear hx hy
      go_wp2
      go_quiet (fail)
      go_wp2
      go_roundw
      case rel => exact ⟨i + 1, by go_num, by omega, HB.out.trans (⟨rfl, rfl, rfl, Nat.le_refl _, fun _ _ => rfl⟩)⟩
      case measure => simp [intOf]; omega
    · obtain rfl : i = n := by omega
      go_wp2
      go_ret
      exact ⟨rfl, HB.out⟩

end Go.Proofs.Ytlndfjplhfgicaa
