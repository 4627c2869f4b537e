/- Contracts: values by a modulus, Newton's step, the lifting of simple roots. -/
import Derived.Test.YtdkppikbneijaaaOp
import Derived.Test.YtdkppikbneijaaaOh
import Derived.Deep.LoopGhost
namespace Go.Proofs.Ytdkppikbneijaaa
open Go.RowKit
set_option linter.unusedVariables false
set_option linter.unusedSimpArgs false

/-! ### the lifting as a plain function -/
def lifD (m : Int) (f : List Int) (N : Int) : Nat → Int → Int → Int
  | 0, _, x => x
  | k + 1, c, x => if c < N then lifD m f N k (2 * c) (nwt m f x) else x
def liftV (p n : Int) (f : List Int) (a : Int) : Int := lifD (p ^ n.toNat) f n n.toNat 1 a
def simB (p : Int) (f : List Int) (a : Int) : Bool := (valM p f a == 0) && (valM p (derL f) a != 0)
theorem lif_fix {m : Int} {f : List Int} {N x : Int} (h : valM m f x = 0) (hx : 0 ≤ x ∧ x < m) : ∀ (k : Nat) (c : Int), lifD m f N k c x = x
  | 0, _ => rfl
  | k + 1, c => by
    rw [lifD]
    split
    · rw [nwt_fix h hx]; exact lif_fix h hx k _
    · rfl
structure LInv (p n : Int) (f : List Int) (T : Int) (k : Nat) (c x : Int) : Prop where
  goal : lifD (p ^ n.toNat) f n k c x = T
  fuel : n ≤ c + k
  one : 1 ≤ c
  inm : 0 ≤ x ∧ x < p ^ n.toNat
  slope : iv (derL f) x % p ≠ 0
  dvd : p ^ (min c n).toNat ∣ iv f x
theorem pow_dvd' (p : Int) {a b : Nat} (h : a ≤ b) : p ^ a ∣ p ^ b := ⟨p ^ (b - a), by rw [← Int.pow_add]; congr 1; omega⟩
theorem pow_one_le {p : Int} {n : Int} (hp : 1 ≤ p) (hn : 1 ≤ n) : p ≤ p ^ n.toNat ∧ p ∣ p ^ n.toNat := by
  obtain ⟨k, hk⟩ : ∃ k, n.toNat = k + 1 := ⟨n.toNat - 1, by omega⟩
  rw [hk, Int.pow_succ]
  have := pow_pos' hp k
  refine ⟨?_, ⟨p ^ k, by rw [Int.mul_comm]⟩⟩
  have := Int.mul_le_mul_of_nonneg_right (show 1 ≤ p ^ k by omega) (show 0 ≤ p by omega)
  omega
theorem lin_start {p n : Int} {f : List Int} {a : Int} (hr : ringB p n = true) (hs : simB p f a = true) (ha : 0 ≤ a ∧ a < p) : LInv p n f (liftV p n f a) n.toNat 1 a := by
  obtain ⟨⟨p1, p2⟩, r2, r3⟩ := ring_bd hr
  have hn := r2.1
  obtain ⟨q1, q2⟩ := pow_one_le (show 1 ≤ p by omega) hn
  simp only [simB, Bool.and_eq_true, beq_iff_eq, bne_iff_ne, valM_eq] at hs
  refine ⟨rfl, by omega, by omega, ⟨ha.1, by omega⟩, hs.2, ?_⟩
  rw [show (min 1 n).toNat = 1 by omega, Int.pow_succ, Int.pow_zero, Int.one_mul]
  exact Int.dvd_of_emod_eq_zero hs.1
theorem unit_slope {p n : Int} {f : List Int} {x : Int} (hr : ringB p n = true) (hsl : iv (derL f) x % p ≠ 0) : valM (p ^ n.toNat) (derL f) x % p ≠ 0 := by
  obtain ⟨⟨p1, p2⟩, r2, r3⟩ := ring_bd hr
  rw [valM_eq, Int.emod_emod_of_dvd _ (pow_one_le (show 1 ≤ p by omega) r2.1).2]
  exact hsl
theorem lin_step {p n : Int} {f : List Int} {T : Int} {k : Nat} {c x : Int} (hr : ringB p n = true) (hpr : primeB p = true) (h : LInv p n f T k c x) (hc : c < n) : 0 < k ∧ LInv p n f T (k - 1) (2 * c) (nwt (p ^ n.toNat) f x) := by
  obtain ⟨⟨p1, p2⟩, r2, r3⟩ := ring_bd hr
  obtain ⟨g1, g2, g3, g4, g5, g6⟩ := h
  obtain ⟨k', rfl⟩ : ∃ k', k = k' + 1 := ⟨k - 1, by omega⟩
  obtain ⟨q1, q2⟩ := pow_one_le (show 1 ≤ p by omega) r2.1
  rw [lifD, if_pos hc] at g1
  have hu := unit_slope hr g5
  have hsb := valM_bd (show 1 ≤ p ^ n.toNat by omega) (derL f) x
  have hgc := gcd_unit (n := n.toNat) hpr hsb.1 hu
  rw [show (min c n).toNat = c.toNat by omega] at g6
  obtain ⟨n1, n2⟩ := nwt_conv (q := p ^ (min (2 * c) n).toNat) (show 2 ≤ p ^ n.toNat by omega) hgc g6 (pow_dvd' p (by omega)) (pow_dvd' p (by omega)) (by rw [← Int.pow_add]; exact pow_dvd' p (by omega))
  refine ⟨by omega, g1, by omega, by omega, nwt_bd (by omega) f x, ?_, n1⟩
  have hpd : p ∣ nwt (p ^ n.toNat) f x - x := Int.dvd_trans (by have := pow_dvd' p (show 1 ≤ c.toNat by omega); rwa [Int.pow_succ, Int.pow_zero, Int.one_mul] at this) n2
  have hcg : nwt (p ^ n.toNat) f x % p = x % p := by
    obtain ⟨t, ht⟩ := hpd
    have : nwt (p ^ n.toNat) f x = x + p * t := by omega
    rw [this, Int.add_mul_emod_self_left]
  rw [iv_congr p (derL f) hcg]
  exact g5
theorem lin_zero {p n : Int} {f : List Int} {T : Int} {k : Nat} {c x : Int} (hr : ringB p n = true) (h : LInv p n f T k c x) (hc : ¬ c < n) : valM (p ^ n.toNat) f x = 0 := by
  have := h.dvd
  rw [show (min c n).toNat = n.toNat by omega] at this
  rw [valM_eq]
  exact Int.emod_eq_zero_of_dvd this
theorem lin_end {p n : Int} {f : List Int} {T : Int} {k : Nat} {c x : Int} (h : LInv p n f T k c x) (hv : valM (p ^ n.toNat) f x = 0) : T = x := by
  rw [← h.goal]; exact lif_fix hv h.inm k c

theorem derL_bd {f : List Int} (hf : Bd 1000000 f) (hl : f.length ≤ 9) : Bd 8000000 (derL f) := by
  intro k
  by_cases hk : k + 1 < f.length
  · rw [derL_el hk]
    exact (abs_mul_le (x := (k : Int) + 1) (y := el f (k + 1)) (a := 8) (b := 1000000) (by omega) (hf (k + 1)))
  · rw [el_out (by rw [derL_len]; omega)]; omega
theorem val_num {m x : Int} {f : List Int} (hm : 1 ≤ m ∧ m ≤ 1000000000) (hx : 0 ≤ x ∧ x < m) (j : Nat) : 0 ≤ hvS m f x j * x ∧ hvS m f x j * x ≤ 1000000000000000000 := by
  have h1 := hvS_bd hm.1 f x j
  have := Int.mul_nonneg h1.1 hx.1
  have := Int.mul_le_mul (show hvS m f x j ≤ 1000000000 by omega) (show x ≤ 1000000000 by omega) hx.1 (by omega)
  omega

set_option maxHeartbeats 1000000 in
theorem valueBy_any {m x : Int} {v : Value} {f : List Int} {w : World} (h : Reads w v f) (hf : Bd 8000000 f) (hm : 1 ≤ m ∧ m ≤ 1000000000) (hx : 0 ≤ x ∧ x < m) (hl : f.length ≤ 1000) :
    Calls Try.prog 56 #[.int .i64 m, v, .int .i64 x] w fun e w' => e = .returned (.int .i64 (valM m f x)) ∧ w = w' := by
  obtain ⟨a, cap, rfl, h1, h2⟩ := reads_nil_eq h
  obtain ⟨n, hn⟩ : ∃ n, f.length = n := ⟨_, rfl⟩
  rw [hn] at h h1 hl ⊢
  have HN := Lib.hid hn
  have HR := Lib.hid h
  have HF := Lib.hid hf
  clear h h2 hn hf
  go_enter Try.func56, Try.ntmps56
  go_wp2
  go_loop [7, 8] (fun y c => ∃ (j : Nat) (K : Int), c = .int .i64 K ∧ K + j + 1 = n ∧ j ≤ n ∧ y = .int .i64 (hvS m f x j)) (fun _ c => (intOf c + 1).toNat)
  case atStart => exact ⟨0, (n : Int) - 1, rfl, by omega, by omega, rfl⟩
  case round =>
    obtain ⟨j, K, rfl, hK, hjn, rfl⟩ := hrel
    by_cases hlt : j < n
    · obtain ⟨i, rfl⟩ : ∃ i : Nat, K = (i : Int) := ⟨n - 1 - j, by omega⟩
      have hij : f.length - 1 - j = i := by rw [HN.out]; omega
      obtain ⟨b, o, rfl, hc⟩ := HR.out.at (k := i) (by rw [HN.out]; omega)
      obtain ⟨m1, m2⟩ := val_num (f := f) hm hx j
      obtain ⟨m3, m4⟩ := hvS_bd hm.1 f x j
      have hb := HF.out i
      have HE := Lib.hid (show (hvS m f x j * x + el f i % m) % m = hvS m f x (j + 1) by rw [hvS, hij, Int.add_emod, Int.emod_emod_of_dvd _ (Int.dvd_refl m), ← Int.add_emod])
      have hem := emod_in (el f i) hm.1
      have HK := Lib.hid hK
      have hin : i < n := by omega
      clear hK hij
      go_wp2_with (first | (go_at_call 35; ((with_reducible refine (mod_any (el f i) m _ hm.1 (by omega)).mono ?_); rintro e w' ⟨rfl, rfl⟩)) | (go_at_call 35; ((with_reducible refine (calls_int (mod_any _ m _ hm.1 (by omega)) HE.out).mono ?_); rintro e w' ⟨rfl, rfl⟩)))
      go_round
      case rel => exact ⟨j + 1, (i : Int) - 1, rfl, by have := HK.out; omega, by omega, rfl⟩
      case measure => first | (simp [intOf]; done) | (simp [intOf]; omega)
    · have hK0 : K = -1 := by omega
      have HE := Lib.hid (show valM m f x = hvS m f x j by rw [valM, HN.out, show n = j by omega])
      subst hK0
      go_wp2
      go_ret
      exact ⟨ret_int HE.out.symm, rfl⟩

set_option maxHeartbeats 1000000 in
theorem l11Value_any {m x : Int} {v : Value} {f : List Int} {w : World} (h : Reads w v f) (hf : Bd 8000000 f) (hm : 1 ≤ m ∧ m ≤ 1000000000) (hx : 0 ≤ x ∧ x < m) (hl : f.length ≤ 1000) :
    Calls Try.prog 32 #[v, .int .i64 x, .int .i64 m] w fun e w' => e = .returned (.int .i64 (valM m f x)) ∧ w = w' := by
  obtain ⟨a, cap, rfl, h1, h2⟩ := reads_nil_eq h
  obtain ⟨n, hn⟩ : ∃ n, f.length = n := ⟨_, rfl⟩
  rw [hn] at h h1 hl ⊢
  have HN := Lib.hid hn
  have HR := Lib.hid h
  have HF := Lib.hid hf
  clear h h2 hn hf
  go_enter Try.func32, Try.ntmps32
  go_wp2
  go_loop [7, 8] (fun y c => ∃ (j : Nat) (K : Int), c = .int .i64 K ∧ K + j + 1 = n ∧ j ≤ n ∧ y = .int .i64 (hvS m f x j)) (fun _ c => (intOf c + 1).toNat)
  case atStart => exact ⟨0, (n : Int) - 1, rfl, by omega, by omega, rfl⟩
  case round =>
    obtain ⟨j, K, rfl, hK, hjn, rfl⟩ := hrel
    by_cases hlt : j < n
    · obtain ⟨i, rfl⟩ : ∃ i : Nat, K = (i : Int) := ⟨n - 1 - j, by omega⟩
      have hij : f.length - 1 - j = i := by rw [HN.out]; omega
      obtain ⟨b, o, rfl, hc⟩ := HR.out.at (k := i) (by rw [HN.out]; omega)
      obtain ⟨m1, m2⟩ := val_num (f := f) hm hx j
      obtain ⟨m3, m4⟩ := hvS_bd hm.1 f x j
      have hb := HF.out i
      have HE := Lib.hid (show (hvS m f x j * x + el f i) % m = hvS m f x (j + 1) by rw [hvS, hij])
      have HK := Lib.hid hK
      have hin : i < n := by omega
      clear hK hij
      go_wp2_with (go_at_call 39; ((with_reducible refine (calls_int (l01Mod_any _ m _ hm.1 (by omega)) HE.out).mono ?_); rintro e w' ⟨rfl, rfl⟩))
      go_round
      case rel => exact ⟨j + 1, (i : Int) - 1, rfl, by have := HK.out; omega, by omega, rfl⟩
      case measure => first | (simp [intOf]; done) | (simp [intOf]; omega)
    · have hK0 : K = -1 := by omega
      have HE := Lib.hid (show valM m f x = hvS m f x j by rw [valM, HN.out, show n = j by omega])
      subst hK0
      go_wp2
      go_ret
      exact ⟨ret_int HE.out.symm, rfl⟩

theorem nwt_num {m x : Int} {f : List Int} (hm : 1 ≤ m ∧ m ≤ 1000000000) (hx : 0 ≤ x ∧ x < m) : 0 ≤ valM m f x * invV m (valM m (derL f) x) ∧ valM m f x * invV m (valM m (derL f) x) ≤ 1000000000000000000 := by
  have h1 := valM_bd hm.1 f x
  have h2 := emod_in (bezX (valM m (derL f) x) m) hm.1
  have := Int.mul_nonneg h1.1 h2.1
  have := Int.mul_le_mul (show valM m f x ≤ 1000000000 by omega) (show bezX (valM m (derL f) x) m % m ≤ 1000000000 by omega) h2.1 (by omega)
  unfold invV
  omega
def lifR (p n : Int) (f : List Int) (a : Int) : Int := if simB p f a then liftV p n f a else 0
theorem simB_ways (p : Int) (f : List Int) (a : Int) : (simB p f a = true ∧ valM p f a = 0 ∧ (valM p (derL f) a == 0) = false ∧ (valM p (derL f) a != 0) = true) ∨ (simB p f a = false ∧ (valM p f a != 0) = true ∧ (valM p f a == 0) = false) ∨ (simB p f a = false ∧ valM p f a = 0 ∧ valM p (derL f) a = 0) := by
  unfold simB
  by_cases h1 : valM p f a = 0
  · by_cases h2 : valM p (derL f) a = 0
    · exact .inr (.inr ⟨by simp [h1, h2], h1, h2⟩)
    · exact .inl ⟨by simp [h1, h2], h1, by simpa using h2, by simpa using h2⟩
  · exact .inr (.inl ⟨by simp [h1], by simpa using h1, by simpa using h1⟩)
def lrC (p n : Int) (f : List Int) (a : Int) : Int := if ringB p n && polyB f then if inB a 0 (p - 1) then if simB p f a then 0 else 5 else 2 else 1
def lrV (p n : Int) (f : List Int) (a : Int) : Int := if lrC p n f a = 0 then liftV p n f a else 0
theorem ring_prime {p n : Int} (h : ringB p n = true) : primeB p = true := by
  simp only [ringB, smallB, Bool.and_eq_true] at h
  exact h.1.1.2

end Go.Proofs.Ytdkppikbneijaaa
