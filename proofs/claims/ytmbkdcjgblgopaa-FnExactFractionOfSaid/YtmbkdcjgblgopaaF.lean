/- Contracts: the opposite of a p-adic number. -/
import Derived.Test.YtmbkdcjgblgopaaE
namespace Go.Proofs.Ytmbkdcjgblgopaa
open Go.RowKit
set_option linter.unusedVariables false
set_option linter.unusedSimpArgs false

theorem negate_zero (p v u : Int) (w : World) :
    Calls Try.prog 74 #[.agg #[.int .i64 p, .int .i64 v, .int .i64 u, .int .i64 0]] w fun e w' => e = .returned (.agg #[.int .i64 p, .int .i64 v, .int .i64 u, .int .i64 0]) ∧ Below w.heap.size w w' := by
  go_enter Try.func74, Try.ntmps74
  go_wp2_with (first | (go_at_call 57; ((with_reducible refine (isZero_any _ _ _ _ _).mono ?_); rintro e w1_hb0 ⟨rfl, hb0⟩; obtain ⟨chb0, fhb0, shb0⟩ := bfacts hb0; (try have l0hb0 : w.heap.size < w1_hb0.heap.size := (by first | (simp at shb0; omega) | omega)); (try have l1hb0 : w.heap.size + 1 < w1_hb0.heap.size := (by first | (simp at shb0; omega) | omega)))) | (refine wp_region_wext (by kernel_rfl) (by kernel_rfl) ?_; (repeat (go_big_quiet_step (first | (go_at_call 57; with_reducible refine calls_wext (isZero_any _ _ _ _ _))))); refine wpQuiet_nil ?_; intro w1_hbq hbq; replace hbq := below_of_wext hbq; obtain ⟨chbq, fhbq, shbq⟩ := bfacts hbq; (try have l0hbq : w.heap.size < w1_hbq.heap.size := (by first | (simp at shbq; omega) | omega)); (try have l1hbq : w.heap.size + 1 < w1_hbq.heap.size := (by first | (simp at shbq; omega) | omega))))
  refine bodyPost_ret (v := .agg #[.int .i64 p, .int .i64 v, .int .i64 u, .int .i64 0]) (by simp [results, Try.results74, go_sem, ↓IntWalk.iteOmega, *]) rfl ?_
  exact ⟨rfl, (by repeat (first | exact Below.refl _ _ | exact below_box _ | refine Below.drew ?_ | refine Below.setCell ?_ (by first | (simp; done) | (simp; omega)) _ | (refine below_step (by assumption) (by first | omega | (simp; done) | (simp; omega)) ?_) | (refine Below.alloc ?_ (by first | omega | (simp; done) | (simp; omega)) _)))⟩
set_option maxHeartbeats 1600000 in
theorem negate_ring (p v u n : Int) (w : World) (hr : ringB p n = true) (hu : 0 ≤ u) (hu2 : u ≤ 1000000000) :
    Calls Try.prog 74 #[.agg #[.int .i64 p, .int .i64 v, .int .i64 u, .int .i64 n]] w fun e w' => e = .returned (.agg #[.int .i64 p, .int .i64 v, .int .i64 (p ^ n.toNat - u), .int .i64 n]) ∧ Below w.heap.size w w' := by
  obtain ⟨h1, h2, h3⟩ := ring_bd hr
  have hz : (n == 0) = false := by simp; omega
  have HR := Lib.hid hr; clear hr
  go_enter Try.func74, Try.ntmps74
  go_wp2_with (first | (go_at_call 57; ((with_reducible refine (isZero_any _ _ _ _ _).mono ?_); rintro e w1_hb0 ⟨rfl, hb0⟩; obtain ⟨chb0, fhb0, shb0⟩ := bfacts hb0; (try have l0hb0 : w.heap.size < w1_hb0.heap.size := (by first | (simp at shb0; omega) | omega)); (try have l1hb0 : w.heap.size + 1 < w1_hb0.heap.size := (by first | (simp at shb0; omega) | omega)))) | (refine wp_region_wext (by kernel_rfl) (by kernel_rfl) ?_; (repeat (go_big_quiet_step (first | (go_at_call 57; with_reducible refine calls_wext (isZero_any _ _ _ _ _))))); refine wpQuiet_nil ?_; intro w1_hbq hbq; replace hbq := below_of_wext hbq; obtain ⟨chbq, fhbq, shbq⟩ := bfacts hbq; (try have l0hbq : w.heap.size < w1_hbq.heap.size := (by first | (simp at shbq; omega) | omega)); (try have l1hbq : w.heap.size + 1 < w1_hbq.heap.size := (by first | (simp at shbq; omega) | omega))))
  have hwr := IntWalk.i64_in (p ^ n.toNat - u) (by omega)
  (refine wp_region_wext_tail 7 (by kernel_rfl) (by kernel_rfl) ?_; simp only [List.take_succ_cons, List.take_zero, List.drop_succ_cons, List.drop_zero]; (repeat (go_big_quiet_step (first | (go_at_call 58; with_reducible refine calls_wext (ring_any _ _ _ _ _)) | (go_at_call 45; with_reducible refine calls_wext (modulus_any _ _ _ HR.out))))); refine wpQuiet_nil ?_; intro w1_hb1 hb1; replace hb1 := below_of_wext hb1; obtain ⟨chb1, fhb1, shb1⟩ := bfacts hb1; (try have l0hb1 : w.heap.size < w1_hb1.heap.size := (by first | (simp at shb1; omega) | omega)); (try have l1hb1 : w.heap.size + 1 < w1_hb1.heap.size := (by first | (simp at shb1; omega) | omega)))
  have q0 : w1_hb1.cell? ⟨w.heap.size, 0, none⟩ = some (.int .i64 p) := by rw [chb1 _ _ l0hb0, chb0 _ _ (by simp; omega)]; simp [go_sem]
  have q1 : w1_hb1.cell? ⟨w.heap.size, 1, none⟩ = some (.int .i64 v) := by rw [chb1 _ _ l0hb0, chb0 _ _ (by simp; omega)]; simp [go_sem]
  have q2 : w1_hb1.cell? ⟨w.heap.size, 2, none⟩ = some (.int .i64 u) := by rw [chb1 _ _ l0hb0, chb0 _ _ (by simp; omega)]; simp [go_sem]
  have q3 : w1_hb1.cell? ⟨w.heap.size, 3, none⟩ = some (.int .i64 n) := by rw [chb1 _ _ l0hb0, chb0 _ _ (by simp; omega)]; simp [go_sem]
  have r0 : ∀ o, w1_hb1.cell? ⟨w.heap.size + 1, o, none⟩ = ((w.alloc (.cells #[.int .i64 p, .int .i64 v, .int .i64 u, .int .i64 n] 34)).alloc (.cells #[.int .i64 0, .int .i64 0, .int .i64 0, .int .i64 0] 34)).cell? ⟨w.heap.size + 1, o, none⟩ := fun o => by rw [chb1 _ _ l1hb0, chb0 _ _ (by simp)]
  have r1 : ∀ b o, b = w.heap.size ∨ b = w.heap.size + 1 → w1_hb1.frozen? ⟨b, o, none⟩ = false := fun b o hb => by rw [fhb1 _ _ (by omega), fhb0 _ _ (by simp; omega)]; rcases hb with rfl | rfl <;> simp [go_sem]
  have r2 := fun o => r1 w.heap.size o (.inl rfl)
  have r3 := fun o => r1 (w.heap.size + 1) o (.inr rfl)
  clear chb0 chb1 fhb0 fhb1 r1
  go_wp2
  refine bodyPost_ret (v := .agg #[.int .i64 p, .int .i64 v, .int .i64 (p ^ n.toNat - u), .int .i64 n]) (by simp [results, Try.results74, go_sem, ↓IntWalk.iteOmega, *]) rfl ?_
  exact ⟨rfl, (by repeat (first | exact Below.refl _ _ | exact below_box _ | refine Below.drew ?_ | refine Below.setCell ?_ (by first | (simp; done) | (simp; omega)) _ | (refine below_step (by assumption) (by first | omega | (simp; done) | (simp; omega)) ?_) | (refine Below.alloc ?_ (by first | omega | (simp; done) | (simp; omega)) _)))⟩
theorem l03Negate_zero (p v u : Int) (w : World) :
    Calls Try.prog 73 #[.agg #[.int .i64 p, .int .i64 v, .int .i64 u, .int .i64 0]] w fun e w' => e = .returned (.agg #[.int .i64 p, .int .i64 v, .int .i64 u, .int .i64 0]) ∧ Below w.heap.size w w' := by
  go_enter Try.func73, Try.ntmps73
  go_wp2
  refine bodyPost_ret (v := .agg #[.int .i64 p, .int .i64 v, .int .i64 u, .int .i64 0]) (by simp [results, Try.results73, go_sem, ↓IntWalk.iteOmega]) rfl ?_
  exact ⟨rfl, (by repeat (first | exact Below.refl _ _ | exact below_box _ | refine Below.drew ?_ | refine Below.setCell ?_ (by first | (simp; done) | (simp; omega)) _ | (refine below_step (by assumption) (by first | omega | (simp; done) | (simp; omega)) ?_) | (refine Below.alloc ?_ (by first | omega | (simp; done) | (simp; omega)) _)))⟩
theorem l03Negate_ring (p v u n : Int) (w : World) (hr : ringB p n = true) (hu : 0 ≤ u) (hu2 : u ≤ 1000000000) :
    Calls Try.prog 73 #[.agg #[.int .i64 p, .int .i64 v, .int .i64 u, .int .i64 n]] w fun e w' => e = .returned (.agg #[.int .i64 p, .int .i64 v, .int .i64 (p ^ n.toNat - u), .int .i64 n]) ∧ Below w.heap.size w w' := by
  obtain ⟨h1, h2, h3⟩ := ring_bd hr
  have hz : (n == 0) = false := by simp; omega
  have HR := Lib.hid hr; clear hr
  go_enter Try.func73, Try.ntmps73
  have hwr := IntWalk.i64_in (p ^ n.toNat - u) (by omega)
  go_wp2_with fail
  go_region_held3 (fun w' => w'.cell? ⟨w.heap.size, 0, none⟩ = some (.int .i64 p) ∧ w'.cell? ⟨w.heap.size, 1, none⟩ = some (.int .i64 v) ∧ w'.cell? ⟨w.heap.size, 2, none⟩ = some (.int .i64 u) ∧ w'.cell? ⟨w.heap.size, 3, none⟩ = some (.int .i64 n)) (go_keep)
    (first | (go_at_call 43; ((with_reducible refine (l02Modulus_ring _ _ _ HR.out).mono ?_); rintro e w' ⟨rfl, rfl⟩)))
  go_wp2
  refine bodyPost_ret (v := .agg #[.int .i64 p, .int .i64 v, .int .i64 (p ^ n.toNat - u), .int .i64 n]) (by simp [results, Try.results73, go_sem, ↓IntWalk.iteOmega, *]) rfl ?_
  exact ⟨rfl, (by repeat (first | exact Below.refl _ _ | exact below_box _ | refine Below.drew ?_ | refine Below.setCell ?_ (by first | (simp; done) | (simp; omega)) _ | (refine below_step (by assumption) (by first | omega | (simp; done) | (simp; omega)) ?_) | (refine Below.alloc ?_ (by first | omega | (simp; done) | (simp; omega)) _)))⟩
end Go.Proofs.Ytmbkdcjgblgopaa
