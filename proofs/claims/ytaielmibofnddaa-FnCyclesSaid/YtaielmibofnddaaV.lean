/- Contracts: the rank of a permutation. -/
import Derived.Test.YtaielmibofnddaaU
namespace Go.Proofs.Ytaielmibofnddaa
open Go.RowKit
set_option linter.unusedVariables false
set_option linter.unusedSimpArgs false

set_option maxHeartbeats 2000000 in
theorem rank_any {v : Value} {zs : List Int} {w : World} (h : Reads w v zs) (hp : permB zs = true) :
    Calls Try.prog 31 #[v] w fun e w' => e = .returned (.int .i64 (rankL zs)) ∧ w = w' := by
  obtain ⟨hp1, hp2, hp3⟩ := permB_bd hp
  have HP := Lib.hid hp3
  clear hp hp3
  obtain ⟨hL, a, cap, rfl, hcap, hmax, hcell⟩ := h
  obtain ⟨b, o, rfl, hb, hc⟩ := hcell (by omega)
  have HC := Lib.hid hc
  clear hcell hc
  have hmax2 : cap ≤ 9223372036854775807 := by unfold maxLen at hmax; omega
  go_enter Try.func31, Try.ntmps31
  go_wp2
  go_loop [3, 11] (fun r c => ∃ k : Nat, c = .int .i64 (k : Int) ∧ k ≤ zs.length ∧ r = .int .i64 (rankN zs k)) (fun _ c => zs.length - (intOf c).toNat)
  case atStart => exact ⟨0, rfl, by omega, rfl⟩
  case round =>
    obtain ⟨k, rfl, hk, rfl⟩ := hrel
    by_cases hlt : k < zs.length
    · have f1 := HC.out k hlt
      by_cases hck : cap = k + 1
      · go_wp2
        go_loop [6, 21] (fun l c => c = .int .i64 0 ∧ l = .int .i64 0) (fun _ _ => 0)
        case atStart => exact ⟨rfl, rfl⟩
        case round =>
          obtain ⟨rfl, rfl⟩ := hrel
          obtain ⟨r1, r2⟩ := rankN_bd6 hp2 (show k ≤ zs.length by omega)
          obtain ⟨m1, m2⟩ : 0 ≤ rankN zs k * ((zs.length : Int) - k) ∧ rankN zs k * ((zs.length : Int) - k) ≤ 1800000 := by
            refine ⟨Int.mul_nonneg r1 (by omega), ?_⟩
            have := Int.mul_le_mul_of_nonneg_left (show (zs.length : Int) - k ≤ 6 by omega) r1
            omega
          have HI := Lib.hid (show zs.length - (k + 1) = 0 by omega)
          go_wp2
          go_round
          case rel => exact ⟨_, _, _, _, _, _, ⟨k + 1, rfl, by omega, rfl⟩, by simp [rankN, HI.out, lessN], rfl, rfl, rfl, rfl, by go_num⟩
          case measure => simp [intOf]; omega
      · go_wp2
        go_loop [6, 21] (fun l c => ∃ i : Nat, c = .int .i64 (i : Int) ∧ i ≤ zs.length - (k + 1) ∧ l = .int .i64 (lessN zs k i)) (fun _ c => zs.length - (intOf c).toNat)
        case atStart => exact ⟨0, rfl, by omega, rfl⟩
        case round =>
          obtain ⟨i, rfl, hi, rfl⟩ := hrel
          obtain ⟨l1, l2⟩ := lessN_bd zs k i
          by_cases hlt2 : k + 1 + i < zs.length
          · have f2 := HC.out (k + 1 + i) hlt2
            have f3 : w.cell? ⟨b, o + (k + 1) + i, none⟩ = some (.int .i64 (el zs (k + 1 + i))) := by rw [Nat.add_assoc]; exact f2
            by_cases hless : el zs (k + 1 + i) < el zs k
            · go_wp2
              go_round
              case rel => exact ⟨i + 1, by go_num, by omega, by simp only [lessN]; rw [if_pos hless]⟩
              case measure => simp [intOf]; omega
            · go_wp2
              go_round
              case rel => exact ⟨i + 1, by go_num, by omega, by simp only [lessN]; rw [if_neg hless, Int.add_zero]⟩
              case measure => simp [intOf]; omega
          · have hie : i = zs.length - (k + 1) := by omega
            obtain ⟨r1, r2⟩ := rankN_bd6 hp2 (show k ≤ zs.length by omega)
            obtain ⟨m1, m2⟩ : 0 ≤ rankN zs k * ((zs.length : Int) - k) ∧ rankN zs k * ((zs.length : Int) - k) ≤ 1800000 := by
              refine ⟨Int.mul_nonneg r1 (by omega), ?_⟩
              have := Int.mul_le_mul_of_nonneg_left (show (zs.length : Int) - k ≤ 6 by omega) r1
              omega
            have HI := Lib.hid hie
            clear hie
            go_wp2
            go_round
            case rel => exact ⟨k + 1, by go_num, by omega, by have := HI.out; subst this; rfl⟩
            case measure => simp [intOf]; omega
    · obtain rfl : k = zs.length := by omega
      go_wp2
      go_ret
      exact ⟨rfl, rfl⟩

set_option maxHeartbeats 2000000 in
theorem l21Rank_any {v : Value} {zs : List Int} {w : World} (h : Reads w v zs) (hp : permB zs = true) :
    Calls Try.prog 32 #[v] w fun e w' => e = .returned (.int .i64 (rankL zs)) ∧ Below w.heap.size w w' := by
  obtain ⟨hp1, hp2, hp3⟩ := permB_bd hp
  have HP := Lib.hid hp3
  clear hp hp3
  obtain ⟨hL, a, cap, rfl, hcap, hmax, hcell⟩ := h
  obtain ⟨b, o, rfl, hb, hc⟩ := hcell (by omega)
  have HC := Lib.hid hc
  clear hcell hc
  go_enter Try.func32, Try.ntmps32
  go_wp2
  go_loopw [3, 4] (fun r c wr => ∃ k : Nat, c = .int .i64 (k : Int) ∧ k ≤ zs.length ∧ r = .int .i64 (rankN zs k) ∧ Below w.heap.size w wr) (fun _ c _ => zs.length - (intOf c).toNat)
  case atStart => exact ⟨0, rfl, by omega, rfl, Below.refl _ _⟩
  case round =>
    obtain ⟨k, rfl, hk, rfl, hbel⟩ := hrel
    have HB := Lib.hid hbel
    clear hbel
    by_cases hlt : k < zs.length
    · go_wp2
      go_loopw [5, 6] (fun l c wr => ∃ i : Nat, c = .int .i64 ((k : Int) + 1 + i) ∧ i ≤ zs.length - (k + 1) ∧ l = .int .i64 (lessN zs k i) ∧ Below w.heap.size w wr) (fun _ c _ => zs.length - (intOf c).toNat)
      case atStart => exact ⟨0, by simp, by omega, rfl, HB.out⟩
      case round =>
        clear HB
        obtain ⟨i, rfl, hi, rfl, hbel⟩ := hrel
        have HB := Lib.hid hbel
        clear hbel
        obtain ⟨l1, l2⟩ := lessN_bd zs k i
        by_cases hlt2 : k + 1 + i < zs.length
        · have f1 : wr.cell? ⟨b, o + k, none⟩ = some (.int .i64 (el zs k)) := by rw [HB.out.cell (p := ⟨b, o + k, none⟩) hb]; exact HC.out k hlt
          have f2 : wr.cell? ⟨b, o + (k + 1 + i), none⟩ = some (.int .i64 (el zs (k + 1 + i))) := by rw [HB.out.cell (p := ⟨b, o + (k + 1 + i), none⟩) hb]; exact HC.out (k + 1 + i) hlt2
          have f3 : b < wr.heap.size := by have := HB.out.size; omega
          by_cases hless : el zs (k + 1 + i) < el zs k
          · go_wp2_with (first | (refine wp_region_wext (by kernel_rfl) (by kernel_rfl) ?_; (repeat (go_big_quiet_step (first | fail))); refine wpQuiet_nil ?_; intro w1_hbq hbq; replace hbq := below_of_wext hbq; obtain ⟨chbq, fhbq, shbq⟩ := bfacts2 hbq; (try simp at shbq)))
            go_roundw
            case rel => exact ⟨i + 1, by first | rfl | (congr 1; omega) | (congr 1), by omega, by simp only [lessN]; rw [if_pos hless], HB.out.trans ((by assumption : Below wr.heap.size wr _).mono HB.out.size)⟩
            case measure => simp [intOf]; omega
          · go_wp2_with (first | (refine wp_region_wext (by kernel_rfl) (by kernel_rfl) ?_; (repeat (go_big_quiet_step (first | fail))); refine wpQuiet_nil ?_; intro w1_hbq hbq; replace hbq := below_of_wext hbq; obtain ⟨chbq, fhbq, shbq⟩ := bfacts2 hbq; (try simp at shbq)))
            go_roundw
            case rel => exact ⟨i + 1, by first | rfl | (congr 1; omega) | (congr 1), by omega, by simp only [lessN]; rw [if_neg hless, Int.add_zero], HB.out.trans ((by assumption : Below wr.heap.size wr _).mono HB.out.size)⟩
            case measure => simp [intOf]; omega
        · have hie : i = zs.length - (k + 1) := by omega
          obtain ⟨r1, r2⟩ := rankN_bd6 hp2 (show k ≤ zs.length by omega)
          obtain ⟨m1, m2⟩ : 0 ≤ rankN zs k * ((zs.length : Int) - k) ∧ rankN zs k * ((zs.length : Int) - k) ≤ 1800000 := by
            refine ⟨Int.mul_nonneg r1 (by omega), ?_⟩
            have := Int.mul_le_mul_of_nonneg_left (show (zs.length : Int) - k ≤ 6 by omega) r1
            omega
          have HI := Lib.hid hie
          clear hie
          go_wp2
          go_roundw
          case rel => exact ⟨k + 1, by go_num, by omega, by have := HI.out; subst this; rfl, HB.out⟩
          case measure => simp [intOf]; omega
    · obtain rfl : k = zs.length := by omega
      go_wp2
      go_ret
      exact ⟨rfl, HB.out⟩

end Go.Proofs.Ytaielmibofnddaa
