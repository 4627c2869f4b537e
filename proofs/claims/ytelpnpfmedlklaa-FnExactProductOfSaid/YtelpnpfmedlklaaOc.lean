/- Contracts: zeros cut off, tests on polynomials, remainders. -/
import Derived.Test.YtelpnpfmedlklaaOb
namespace Go.Proofs.Ytelpnpfmedlklaa
open Go.RowKit
set_option linter.unusedVariables false
set_option linter.unusedSimpArgs false

theorem Reads.at {w : World} {a : Option Addr} {n cap : Nat} {zs : List Int} (h : Reads w (.slice a n cap) zs) {k : Nat} (hk : k < zs.length) : ∃ b o, a = some ⟨b, o, none⟩ ∧ w.cell? ⟨b, o + k, none⟩ = some (.int .i64 (el zs k)) := by
  obtain ⟨_, a', cap', hv, _, _, hc⟩ := h
  injection hv with e1 _ _
  subst e1
  obtain ⟨b, o, rfl, _, h5⟩ := hc (by omega)
  exact ⟨b, o, rfl, h5 k hk⟩

theorem Reads.lt {w : World} {b o : Nat} {n cap : Nat} {zs : List Int} (h : Reads w (.slice (some ⟨b, o, none⟩) n cap) zs) (hk : 0 < zs.length) : b < w.heap.size := by
  obtain ⟨_, a', cap', hv, _, _, hc⟩ := h
  injection hv with e1 _ _
  subst e1
  obtain ⟨b', o', e, h4, _⟩ := hc hk
  injection e with e
  injection e with e2 _ _
  rw [e2]; exact h4

set_option maxHeartbeats 1000000 in
theorem trim_any {v : Value} {f : List Int} {w : World} (h : Reads w v f) :
    Calls Try.prog 42 #[v] w (RetInts (trimL f) w) := by
  obtain ⟨a, cap, rfl, h1, h2⟩ := reads_nil_eq h
  have HR := Lib.hid h
  have hl := h.1
  clear h h2
  go_enter Try.func42, Try.ntmps42
  go_wp2
  go_loop [3] (fun c => ∃ n : Nat, c = .int .i64 (n : Int) ∧ n ≤ f.length ∧ Hid (trimN f n = trimN f f.length)) (fun c => (intOf c).toNat)
  case atStart => exact ⟨_, rfl, Nat.le_refl _, Lib.hid rfl⟩
  case round =>
    obtain ⟨n, rfl, hn, HT⟩ := hrel
    by_cases h0 : 0 < n
    · obtain ⟨m, rfl⟩ : ∃ m, n = m + 1 := ⟨n - 1, by omega⟩
      obtain ⟨b, o, rfl, hc⟩ := HR.out.at (k := m) (by omega)
      by_cases hz : el f m = 0
      · rw [hz] at hc
        have HN := Lib.hid (show trimN f m = trimN f f.length by rw [← HT.out, trimN_zero hz])
        clear hz HT
        go_wp2
        go_round
        case rel => exact ⟨m, by go_num, by omega, HN⟩
        case measure => simp [intOf]
      · have hz' : (el f m == 0) = false := by simpa using hz
        have HN := Lib.hid (show trimN f f.length = m + 1 by rw [← HT.out, trimN_stop hz])
        clear hz HT
        go_wp2_with (go_at_call 44; with_reducible refine (Clone_reads (HR.out.take (k := m + 1) hn)).mono ?_)
        rintro _ w1 ⟨v1, rfl, o1, b1⟩
        go_wp2
        go_ret
        exact ⟨v1, rfl, by rw [trimL, HN.out]; exact o1, b1⟩
    · obtain rfl : n = 0 := by omega
      have HN := Lib.hid (show trimN f f.length = 0 by rw [← HT.out]; rfl)
      clear HT
      go_wp2_with (go_at_call 44; with_reducible refine (Clone_reads (HR.out.take (k := 0) hn)).mono ?_)
      rintro _ w1 ⟨v1, rfl, o1, b1⟩
      go_wp2
      go_ret
      exact ⟨v1, rfl, by rw [trimL, HN.out]; exact o1, b1⟩

set_option maxHeartbeats 1000000 in
theorem l06Trim_any {v : Value} {f : List Int} {w : World} (h : Reads w v f) :
    Calls Try.prog 39 #[v] w (RetInts (trimL f) w) := by
  obtain ⟨a, cap, rfl, h1, h2⟩ := reads_nil_eq h
  have HR := Lib.hid h
  have hl := h.1
  clear h h2
  go_enter Try.func39, Try.ntmps39
  go_wp2
  go_loop [3] (fun c => ∃ n : Nat, c = .int .i64 (n : Int) ∧ n ≤ f.length ∧ Hid (trimN f n = trimN f f.length)) (fun c => (intOf c).toNat)
  case atStart => exact ⟨_, rfl, Nat.le_refl _, Lib.hid rfl⟩
  case round =>
    obtain ⟨n, rfl, hn, HT⟩ := hrel
    by_cases h0 : 0 < n
    · obtain ⟨m, rfl⟩ : ∃ m, n = m + 1 := ⟨n - 1, by omega⟩
      obtain ⟨b, o, rfl, hc⟩ := HR.out.at (k := m) (by omega)
      by_cases hz : el f m = 0
      · rw [hz] at hc
        have HN := Lib.hid (show trimN f m = trimN f f.length by rw [← HT.out, trimN_zero hz])
        clear hz HT
        go_wp2
        go_round
        case rel => exact ⟨m, by go_num, by omega, HN⟩
        case measure => simp [intOf]
      · have hz' : (el f m == 0) = false := by simpa using hz
        have HN := Lib.hid (show trimN f f.length = m + 1 by rw [← HT.out, trimN_stop hz])
        clear hz HT
        go_wp2_with (go_at_call 43; with_reducible refine (l01Own_reads (HR.out.take (k := m + 1) hn)).mono ?_)
        rintro _ w1 ⟨v1, rfl, o1, b1⟩
        go_wp2
        go_ret
        exact ⟨v1, rfl, by rw [trimL, HN.out]; exact o1, b1⟩
    · obtain rfl : n = 0 := by omega
      have HN := Lib.hid (show trimN f f.length = 0 by rw [← HT.out]; rfl)
      clear HT
      go_wp2_with (go_at_call 43; with_reducible refine (l01Own_reads (HR.out.take (k := 0) hn)).mono ?_)
      rintro _ w1 ⟨v1, rfl, o1, b1⟩
      go_wp2
      go_ret
      exact ⟨v1, rfl, by rw [trimL, HN.out]; exact o1, b1⟩

end Go.Proofs.Ytelpnpfmedlklaa
