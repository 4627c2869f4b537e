/- Contracts: Bezout's numbers, inverses by a modulus. -/
import Derived.Test.YtggojomooodlgaaC
import Derived.LoopTactic
namespace Go.Proofs.Ytggojomooodlgaa
open Go.RowKit
set_option linter.unusedVariables false
set_option linter.unusedSimpArgs false

/-- Euclid's steps with what they make of the two coefficients. -/
def bzN : Nat → Int → Int → Int → Int → Int → Int → Int × Int × Int
  | 0, r, x, y, _, _, _ => (r, x, y)
  | f + 1, r, x, y, s, u, v => if s = 0 then (r, x, y) else bzN f s u v (r - r / s * s) (x - r / s * u) (y - r / s * v)
def bez (a b : Int) : Int × Int × Int := bzN (b.toNat + 1) a 1 0 b 0 1
def bezX (a b : Int) : Int := (bez a b).2.1
def bezY (a b : Int) : Int := (bez a b).2.2
/-- What the loop keeps. -/
structure BzInv (a b : Int) (r x y s u v : Int) : Prop where
  goal : ∃ f : Nat, s.toNat < f ∧ bzN f r x y s u v = bez a b
  nn : 0 ≤ r ∧ 0 ≤ s ∧ r ≤ a + b ∧ s ≤ a + b
  coef : ∃ X U Y V : Int, 0 ≤ X ∧ 0 ≤ U ∧ 0 ≤ Y ∧ 0 ≤ V ∧ X * s + U * r = b ∧ Y * s + V * r = a ∧ X ≤ b + 1 ∧ U ≤ b + 1 ∧ Y ≤ a + 1 ∧ V ≤ a + 1 ∧ ((x = X ∧ u = -U ∧ y = -Y ∧ v = V) ∨ (x = -X ∧ u = U ∧ y = Y ∧ v = -V))
theorem bz_start {a b : Int} (ha : 0 ≤ a) (hb : 0 ≤ b) : BzInv a b a 1 0 b 0 1 :=
  ⟨⟨b.toNat + 1, by omega, rfl⟩, ⟨ha, hb, by omega, by omega⟩, 1, 0, 0, 1, by omega, by omega, by omega, by omega, by omega, by omega, by omega, by omega, by omega, by omega, .inl ⟨rfl, rfl, rfl, rfl⟩⟩
theorem le_of_mul {c s b : Int} (hc : 0 ≤ c) (hs : 1 ≤ s) (h : c * s ≤ b) : c ≤ b := by
  have := Int.mul_le_mul_of_nonneg_left hs hc
  omega
theorem bz_step {a b r x y s u v : Int} (h : BzInv a b r x y s u v) (hs : s ≠ 0) (ha : 0 ≤ a) (hb : 0 ≤ b) :
    BzInv a b s u v (r - r / s * s) (x - r / s * u) (y - r / s * v) ∧ (0 ≤ r / s ∧ r / s ≤ a + b) ∧ (0 ≤ r / s * s ∧ r / s * s ≤ a + b) ∧ (-b ≤ r / s * u ∧ r / s * u ≤ b) ∧ (-a ≤ r / s * v ∧ r / s * v ≤ a) ∧ (r - r / s * s).toNat < s.toNat := by
  obtain ⟨⟨f, hf, hg⟩, ⟨n1, n2, n3, n4⟩, X, U, Y, V, x0, u0, y0, v0, e1, e2, bx, bu, by', bv, hxy⟩ := h
  have hs1 : 1 ≤ s := by omega
  have q0 : 0 ≤ r / s := Int.ediv_nonneg n1 n2
  have q1 : r / s ≤ r := Int.ediv_le_self _ n1
  have hm : r / s * s + r % s = r := Int.mul_comm s (r / s) ▸ Int.mul_ediv_add_emod r s
  have m0 := Int.emod_nonneg r hs
  have m1 := Int.emod_lt_of_pos r (show 0 < s by omega)
  have p0 : 0 ≤ r / s * s := Int.mul_nonneg q0 n2
  have er : r - r / s * s = r % s := by omega
  -- the new coefficients
  have U1 : 0 ≤ r / s * U := Int.mul_nonneg q0 u0
  have V1 : 0 ≤ r / s * V := Int.mul_nonneg q0 v0
  have E1 : U * (r - r / s * s) + (X + r / s * U) * s = b := by
    rw [Int.mul_sub, Int.add_mul, Int.mul_comm (r / s) s, ← Int.mul_assoc, Int.mul_comm (r / s) U, Int.mul_assoc U, Int.mul_assoc U, Int.mul_comm s]
    omega
  have E2 : V * (r - r / s * s) + (Y + r / s * V) * s = a := by
    rw [Int.mul_sub, Int.add_mul, Int.mul_comm (r / s) s, ← Int.mul_assoc, Int.mul_comm (r / s) V, Int.mul_assoc V, Int.mul_assoc V, Int.mul_comm s]
    omega
  have k1 : 0 ≤ U * (r - r / s * s) := Int.mul_nonneg u0 (by omega)
  have k2 : 0 ≤ V * (r - r / s * s) := Int.mul_nonneg v0 (by omega)
  have b1 : X + r / s * U ≤ b := le_of_mul (by omega) hs1 (by omega)
  have b2 : Y + r / s * V ≤ a := le_of_mul (by omega) hs1 (by omega)
  refine ⟨⟨?_, ⟨n2, by omega, n4, by omega⟩, U, X + r / s * U, V, Y + r / s * V, u0, by omega, v0, by omega, E1, E2, bu, by omega, bv, by omega, ?_⟩, ⟨q0, by omega⟩, ⟨p0, by omega⟩, ?_, ?_, by omega⟩
  · obtain ⟨g, rfl⟩ : ∃ g, f = g + 1 := ⟨f - 1, by omega⟩
    rw [bzN, if_neg hs] at hg
    exact ⟨g, by omega, hg⟩
  · rcases hxy with ⟨rfl, rfl, rfl, rfl⟩ | ⟨rfl, rfl, rfl, rfl⟩
    · right; refine ⟨rfl, ?_, rfl, ?_⟩ <;> (try simp only [Int.mul_neg]) <;> omega
    · left; refine ⟨rfl, ?_, rfl, ?_⟩ <;> (try simp only [Int.mul_neg]) <;> omega
  · rcases hxy with ⟨rfl, rfl, rfl, rfl⟩ | ⟨rfl, rfl, rfl, rfl⟩ <;> (try simp only [Int.mul_neg]) <;> omega
  · rcases hxy with ⟨rfl, rfl, rfl, rfl⟩ | ⟨rfl, rfl, rfl, rfl⟩ <;> (try simp only [Int.mul_neg]) <;> omega
theorem bz_bd {a b r x y s u v : Int} (h : BzInv a b r x y s u v) : (-b - 1 ≤ x ∧ x ≤ b + 1) ∧ (-b - 1 ≤ u ∧ u ≤ b + 1) ∧ (-a - 1 ≤ y ∧ y ≤ a + 1) ∧ (-a - 1 ≤ v ∧ v ≤ a + 1) := by
  obtain ⟨_, _, X, U, Y, V, x0, u0, y0, v0, e1, e2, bx, bu, by', bv, hxy⟩ := h
  rcases hxy with ⟨rfl, rfl, rfl, rfl⟩ | ⟨rfl, rfl, rfl, rfl⟩ <;> omega
theorem bz_end {a b r x y s u v : Int} (h : BzInv a b r x y s u v) (hs : s = 0) : bezX a b = x ∧ bezY a b = y ∧ (bez a b).1 = r := by
  obtain ⟨⟨f, hf, hg⟩, _⟩ := h
  obtain ⟨g, rfl⟩ : ∃ g, f = g + 1 := ⟨f - 1, by omega⟩
  rw [bzN, if_pos hs] at hg
  simp [bezX, bezY, ← hg]

set_option maxHeartbeats 1000000 in
theorem Bezout_any (a b : Int) (w : World) (ha : 0 ≤ a ∧ a ≤ 1000000000000) (hb : 0 ≤ b ∧ b ≤ 1000000000000) :
    Calls Try.prog 71 #[.int .i64 a, .int .i64 b] w fun e w' => e = .returned (.tuple #[.int .i64 (bezX a b), .int .i64 (bezY a b), .int .i64 0]) ∧ w = w' := by
  have HA := Lib.hid (show inB a (-1000000000000) 1000000000000 = true from inB_iff.2 (by omega))
  have HB := Lib.hid (show inB b (-1000000000000) 1000000000000 = true from inB_iff.2 (by omega))
  go_enter Try.func71, Try.ntmps71
  go_wp2_with (first | (go_at_call 73; ((with_reducible refine (calls_bool (isValue_any a _) HA.out).mono ?_); rintro e w' ⟨rfl, rfl⟩)) | (go_at_call 73; ((with_reducible refine (calls_bool (isValue_any b _) HB.out).mono ?_); rintro e w' ⟨rfl, rfl⟩)))
  go_loop [7, 8, 9, 10, 11, 12] (fun r x y s u v => ∃ R X Y S U V : Int, r = .int .i64 R ∧ x = .int .i64 X ∧ y = .int .i64 Y ∧ s = .int .i64 S ∧ u = .int .i64 U ∧ v = .int .i64 V ∧ Hid (BzInv a b R X Y S U V)) (fun _ _ _ s _ _ => (intOf s).toNat)
  case atStart => exact ⟨_, _, _, _, _, _, rfl, rfl, rfl, rfl, rfl, rfl, Lib.hid (bz_start ha.1 hb.1)⟩
  case round =>
    obtain ⟨R, X, Y, S, U, V, rfl, rfl, rfl, rfl, rfl, rfl, HI⟩ := hrel
    obtain ⟨⟨x1, x2⟩, ⟨u1, u2⟩, ⟨y1, y2⟩, v1, v2⟩ := bz_bd HI.out
    obtain ⟨n1, n2, n3, n4⟩ := HI.out.nn
    by_cases hs : S = 0
    · obtain ⟨e1, e2, _⟩ := bz_end HI.out hs
      have E1 := Lib.hid e1
      have E2 := Lib.hid e2
      clear e1 e2
      go_wp2
      go_ret3
      exact ⟨ret3 E1.out.symm E2.out.symm rfl, rfl⟩
    · obtain ⟨hi, ⟨q1, q2⟩, ⟨q3, q4⟩, ⟨q5, q6⟩, ⟨q7, q8⟩, hm⟩ := bz_step HI.out hs ha.1 hb.1
      have HN := Lib.hid hi
      have HM := Lib.hid hm
      clear hi hm
      go_wp2
      go_round
      case rel => exact ⟨_, _, _, _, _, _, rfl, rfl, rfl, rfl, rfl, rfl, HN⟩
      case measure => exact HM.out

set_option maxHeartbeats 1000000 in
theorem l01Bezout_any (a b : Int) (w : World) (ha : 0 ≤ a ∧ a ≤ 1000000000000) (hb : 0 ≤ b ∧ b ≤ 1000000000000) :
    Calls Try.prog 69 #[.int .i64 a, .int .i64 b] w fun e w' => e = .returned (.tuple #[.int .i64 (bezX a b), .int .i64 (bezY a b)]) ∧ w = w' := by
  go_enter Try.func69, Try.ntmps69
  go_wp2
  go_loop [6, 7, 8, 9, 10, 11] (fun r x y s u v => ∃ R X Y S U V : Int, r = .int .i64 R ∧ x = .int .i64 X ∧ y = .int .i64 Y ∧ s = .int .i64 S ∧ u = .int .i64 U ∧ v = .int .i64 V ∧ Hid (BzInv a b R X Y S U V)) (fun _ _ _ s _ _ => (intOf s).toNat)
  case atStart => exact ⟨_, _, _, _, _, _, rfl, rfl, rfl, rfl, rfl, rfl, Lib.hid (bz_start ha.1 hb.1)⟩
  case round =>
    obtain ⟨R, X, Y, S, U, V, rfl, rfl, rfl, rfl, rfl, rfl, HI⟩ := hrel
    obtain ⟨⟨x1, x2⟩, ⟨u1, u2⟩, ⟨y1, y2⟩, v1, v2⟩ := bz_bd HI.out
    obtain ⟨n1, n2, n3, n4⟩ := HI.out.nn
    by_cases hs : S = 0
    · obtain ⟨e1, e2, _⟩ := bz_end HI.out hs
      have E1 := Lib.hid e1
      have E2 := Lib.hid e2
      clear e1 e2
      go_wp2
      go_ret2
      exact ⟨ret2 E1.out.symm E2.out.symm, rfl⟩
    · obtain ⟨hi, ⟨q1, q2⟩, ⟨q3, q4⟩, ⟨q5, q6⟩, ⟨q7, q8⟩, hm⟩ := bz_step HI.out hs ha.1 hb.1
      have HN := Lib.hid hi
      have HM := Lib.hid hm
      clear hi hm
      go_wp2
      go_round
      case rel => exact ⟨_, _, _, _, _, _, rfl, rfl, rfl, rfl, rfl, rfl, HN⟩
      case measure => exact HM.out

/-- The inverse by m. -/
def invV (m a : Int) : Int := bezX a m % m
theorem l02Inverse_any (a m : Int) (w : World) (ha : 0 ≤ a ∧ a ≤ 1000000000000) (hm : 1 ≤ m ∧ m ≤ 1000000000) :
    Calls Try.prog 64 #[.int .i64 a, .int .i64 m] w fun e w' => e = .returned (.int .i64 (invV m a)) ∧ w = w' := by
  go_enter Try.func64, Try.ntmps64
  go_wp2_with (first | (go_at_call 69; ((with_reducible refine (l01Bezout_any _ _ _ ha ⟨by omega, by omega⟩).mono ?_); rintro e w' ⟨rfl, rfl⟩)) | (go_at_call 29; ((with_reducible refine (l01Mod_any _ _ _ (by omega) (by omega)).mono ?_); rintro e w' ⟨rfl, rfl⟩)))
  go_ret
  exact ⟨rfl, rfl⟩
set_option maxHeartbeats 1000000 in
theorem inverse_any (p n a : Int) (w : World) (hr : ringB p n = true) (ha : 0 ≤ a ∧ a ≤ 1000000000000) :
    Calls Try.prog 67 #[.agg #[.int .i64 p, .int .i64 n], .int .i64 a] w fun e w' => e = .returned (.int .i64 (invV (p ^ n.toNat) a)) ∧ Below w.heap.size w w' := by
  obtain ⟨r1, r2, r3⟩ := ring_bd hr
  have HR := Lib.hid hr
  clear hr
  go_enter Try.func67, Try.ntmps67
  go_wp2_with (first | (go_at_call 72; ((with_reducible refine (modulus_any _ _ _ HR.out).mono ?_); rintro e w1_hb0 ⟨rfl, hb0⟩; obtain ⟨chb0, fhb0, shb0⟩ := bfacts2 hb0; (try simp at shb0))) | (go_at_call 71; ((with_reducible refine (Bezout_any _ _ _ ha ⟨by omega, by omega⟩).mono ?_); rintro e w' ⟨rfl, rfl⟩)) | (go_at_call 35; ((with_reducible refine (mod_any _ _ _ (by omega) (by omega)).mono ?_); rintro e w' ⟨rfl, rfl⟩)) | (refine wp_region_wext (by kernel_rfl) (by kernel_rfl) ?_; (repeat (go_big_quiet_step (first | (go_at_call 72; with_reducible refine calls_wext (modulus_any _ _ _ HR.out)) | (go_at_call 71; with_reducible refine calls_wext_same (Bezout_any _ _ _ ha ⟨by omega, by omega⟩)) | (go_at_call 35; with_reducible refine calls_wext_same (mod_any _ _ _ (by omega) (by omega)))))); refine wpQuiet_nil ?_; intro w1_hbq hbq; replace hbq := below_of_wext hbq; obtain ⟨chbq, fhbq, shbq⟩ := bfacts2 hbq; (try simp at shbq)))
  go_ret
  exact ⟨rfl, (by repeat (first | assumption | exact Below.refl _ _ | exact below_box _ | refine Below.drew ?_ | refine Below.setCell ?_ (by first | (simp; done) | (simp; omega)) _ | (refine below_step (by assumption) (by first | omega | (simp; done) | (simp; omega)) ?_) | (refine Below.alloc ?_ (by first | omega | (simp; done) | (simp; omega)) _)))⟩

end Go.Proofs.Ytggojomooodlgaa
