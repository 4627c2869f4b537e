/- Contracts: likeInts over equal slices, hasInt; what bytes a law's argument reads. -/
import Derived.Test.YtcecmjnbhppocaaDoorNb
import Derived.Test.YtcecmjnbhppocaaDoorW
namespace Go.Proofs.YtcecmjnbhppocaaDoor
open Go.RowKit
set_option linter.unusedVariables false
set_option linter.unusedSimpArgs false

theorem Reads.cellN {w : World} {a : Option Addr} {n cap : Nat} {zs : List Int} (h : Reads w (.slice a n cap) zs) {k : Nat} (hk : k < zs.length) : ∃ b o, a = some ⟨b, o, none⟩ ∧ w.cell? ⟨b, o + k, none⟩ = some (.int .i64 (el zs k)) := by
  obtain ⟨_, a', cap', hv, _, _, hc⟩ := h
  injection hv with e1 _ _
  subst e1
  obtain ⟨b, o, rfl, h4, h5⟩ := hc (by omega)
  exact ⟨b, o, rfl, h5 k hk⟩
set_option maxHeartbeats 2000000 in
theorem likeInts_same {v u : Value} {zs : List Int} {w : World} (h : Reads w v zs) (k : Reads w u zs) :
    Calls Tryd.prog 17 #[v, u] w fun e w' => e = .returned (.bool true) ∧ Below w.heap.size w w' := by
  obtain ⟨n, hn⟩ : ∃ n, n = zs.length := ⟨_, rfl⟩
  have HN := Lib.hid hn
  have HR := Lib.hid h
  have HK := Lib.hid k
  obtain ⟨hL, a1, cap1, rfl, hcap1, hmax1, _⟩ := h
  obtain ⟨_, a2, cap2, rfl, hcap2, hmax2, _⟩ := k
  rw [← hn] at hL hcap1 hcap2 HR HK
  rw [← hn]
  clear hn hmax1 hmax2
  go_enter Tryd.func17, Tryd.ntmps17
  go_wp2
  go_loopw [5] (fun c wr => ∃ i : Nat, c = .int .i64 (i : Int) ∧ i ≤ n ∧ Below w.heap.size w wr) (fun c _ => n - (intOf c).toNat)
  case atStart => exact ⟨0, rfl, by omega, Below.refl _ _⟩
  case round =>
    obtain ⟨i, rfl, hi, hb⟩ := hrel
    have HB := Lib.hid hb
    clear hb
    by_cases hlt : i < n
    · obtain ⟨b1, o1, rfl, c1⟩ := Reads.cellN (HR.out.step HB.out) (k := i) (by have := HN.out; omega)
      obtain ⟨b2, o2, rfl, c2⟩ := Reads.cellN (HK.out.step HB.out) (k := i) (by have := HN.out; omega)
      go_wp2
      go_quiet (fail)
      go_wp2
      go_roundw
      case rel => exact ⟨i + 1, by go_num, by omega, HB.out.trans (⟨rfl, rfl, rfl, Nat.le_refl _, fun _ _ => rfl⟩)⟩
      case measure => simp [intOf]; omega
    · obtain rfl : i = n := by omega
      go_wp2
      go_ret
      exact ⟨rfl, HB.out⟩
end Go.Proofs.YtcecmjnbhppocaaDoor
