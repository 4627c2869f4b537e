/- Contracts: values by a modulus, Newton's step, the lifting of simple roots. -/
import Derived.Test.YthepcmppibibfaaOp
import Derived.Test.YthepcmppibibfaaOh
import Derived.Deep.LoopGhost
namespace Go.Proofs.Ythepcmppibibfaa
open Go.RowKit
set_option linter.unusedVariables false
set_option linter.unusedSimpArgs false

/-! ### the lifting as a plain function -/
def lifD (m : Int) (f : List Int) (N : Int) : Nat → Int → Int → Int
  | 0, _, x => x
  | k + 1, c, x => if c < N then lifD m f N k (2 * c) (nwt m f x) else x
def liftV (p n : Int) (f : List Int) (a : Int) : Int := lifD (p ^ n.toNat) f n n.toNat 1 a
def simB (p : Int) (f : List Int) (a : Int) : Bool := (valM p f a == 0) && (valM p (derL f) a != 0)
theorem lif_fix {m : Int} {f : List Int} {N x : Int} (h : valM m f x = 0) (hx : 0 ≤ x ∧ x < m) : ∀ (k : Nat) (c : Int), lifD m f N k c x = x
  | 0, _ => rfl
  | k + 1, c => by
    rw [lifD]
    split
    · rw [nwt_fix h hx]; exact lif_fix h hx k _
    · rfl
structure LInv (p n : Int) (f : List Int) (T : Int) (k : Nat) (c x : Int) : Prop where
  goal : lifD (p ^ n.toNat) f n k c x = T
  fuel : n ≤ c + k
  one : 1 ≤ c
  inm : 0 ≤ x ∧ x < p ^ n.toNat
  slope : iv (derL f) x % p ≠ 0
  dvd : p ^ (min c n).toNat ∣ iv f x
theorem pow_dvd' (p : Int) {a b : Nat} (h : a ≤ b) : p ^ a ∣ p ^ b := ⟨p ^ (b - a), by rw [← Int.pow_add]; congr 1; omega⟩
theorem pow_one_le {p : Int} {n : Int} (hp : 1 ≤ p) (hn : 1 ≤ n) : p ≤ p ^ n.toNat ∧ p ∣ p ^ n.toNat := by
  obtain ⟨k, hk⟩ : ∃ k, n.toNat = k + 1 := ⟨n.toNat - 1, by omega⟩
  rw [hk, Int.pow_succ]
  have := pow_pos' hp k
  refine ⟨?_, ⟨p ^ k, by rw [Int.mul_comm]⟩⟩
  have := Int.mul_le_mul_of_nonneg_right (show 1 ≤ p ^ k by omega) (show 0 ≤ p by omega)
  omega
theorem lin_start {p n : Int} {f : List Int} {a : Int} (hr : ringB p n = true) (hs : simB p f a = true) (ha : 0 ≤ a ∧ a < p) : LInv p n f (liftV p n f a) n.toNat 1 a := by
  obtain ⟨⟨p1, p2⟩, r2, r3⟩ := ring_bd hr
  have hn := r2.1
  obtain ⟨q1, q2⟩ := pow_one_le (show 1 ≤ p by omega) hn
  simp only [simB, Bool.and_eq_true, beq_iff_eq, bne_iff_ne, valM_eq] at hs
  refine ⟨rfl, by omega, by omega, ⟨ha.1, by omega⟩, hs.2, ?_⟩
  rw [show (min 1 n).toNat = 1 by omega, Int.pow_succ, Int.pow_zero, Int.one_mul]
  exact Int.dvd_of_emod_eq_zero hs.1
theorem unit_slope {p n : Int} {f : List Int} {x : Int} (hr : ringB p n = true) (hsl : iv (derL f) x % p ≠ 0) : valM (p ^ n.toNat) (derL f) x % p ≠ 0 := by
  obtain ⟨⟨p1, p2⟩, r2, r3⟩ := ring_bd hr
  rw [valM_eq, Int.emod_emod_of_dvd _ (pow_one_le (show 1 ≤ p by omega) r2.1).2]
  exact hsl
theorem lin_step {p n : Int} {f : List Int} {T : Int} {k : Nat} {c x : Int} (hr : ringB p n = true) (hpr : primeB p = true) (h : LInv p n f T k c x) (hc : c < n) : 0 < k ∧ LInv p n f T (k - 1) (2 * c) (nwt (p ^ n.toNat) f x) := by
  obtain ⟨⟨p1, p2⟩, r2, r3⟩ := ring_bd hr
  obtain ⟨g1, g2, g3, g4, g5, g6⟩ := h
  obtain ⟨k', rfl⟩ : ∃ k', k = k' + 1 := ⟨k - 1, by omega⟩
  obtain ⟨q1, q2⟩ := pow_one_le (show 1 ≤ p by omega) r2.1
  rw [lifD, if_pos hc] at g1
  have hu := unit_slope hr g5
  have hsb := valM_bd (show 1 ≤ p ^ n.toNat by omega) (derL f) x
  have hgc := gcd_unit (n := n.toNat) hpr hsb.1 hu
  rw [show (min c n).toNat = c.toNat by omega] at g6
  obtain ⟨n1, n2⟩ := nwt_conv (q := p ^ (min (2 * c) n).toNat) (show 2 ≤ p ^ n.toNat by omega) hgc g6 (pow_dvd' p (by omega)) (pow_dvd' p (by omega)) (by rw [← Int.pow_add]; exact pow_dvd' p (by omega))
  refine ⟨by omega, g1, by omega, by omega, nwt_bd (by omega) f x, ?_, n1⟩
  have hpd : p ∣ nwt (p ^ n.toNat) f x - x := Int.dvd_trans (by have := pow_dvd' p (show 1 ≤ c.toNat by omega); rwa [Int.pow_succ, Int.pow_zero, Int.one_mul] at this) n2
  have hcg : nwt (p ^ n.toNat) f x % p = x % p := by
    obtain ⟨t, ht⟩ := hpd
    have : nwt (p ^ n.toNat) f x = x + p * t := by omega
    rw [this, Int.add_mul_emod_self_left]
  rw [iv_congr p (derL f) hcg]
  exact g5
theorem lin_zero {p n : Int} {f : List Int} {T : Int} {k : Nat} {c x : Int} (hr : ringB p n = true) (h : LInv p n f T k c x) (hc : ¬ c < n) : valM (p ^ n.toNat) f x = 0 := by
  have := h.dvd
  rw [show (min c n).toNat = n.toNat by omega] at this
  rw [valM_eq]
  exact Int.emod_eq_zero_of_dvd this
theorem lin_end {p n : Int} {f : List Int} {T : Int} {k : Nat} {c x : Int} (h : LInv p n f T k c x) (hv : valM (p ^ n.toNat) f x = 0) : T = x := by
  rw [← h.goal]; exact lif_fix hv h.inm k c

theorem derL_bd {f : List Int} (hf : Bd 1000000 f) (hl : f.length ≤ 9) : Bd 8000000 (derL f) := by
  intro k
  by_cases hk : k + 1 < f.length
  · rw [derL_el hk]
    exact (abs_mul_le (x := (k : Int) + 1) (y := el f (k + 1)) (a := 8) (b := 1000000) (by omega) (hf (k + 1)))
  · rw [el_out (by rw [derL_len]; omega)]; omega
theorem val_num {m x : Int} {f : List Int} (hm : 1 ≤ m ∧ m ≤ 1000000000) (hx : 0 ≤ x ∧ x < m) (j : Nat) : 0 ≤ hvS m f x j * x ∧ hvS m f x j * x ≤ 1000000000000000000 := by
  have h1 := hvS_bd hm.1 f x j
  have := Int.mul_nonneg h1.1 hx.1
  have := Int.mul_le_mul (show hvS m f x j ≤ 1000000000 by omega) (show x ≤ 1000000000 by omega) hx.1 (by omega)
  omega

set_option maxHeartbeats 1000000 in
theorem valueBy_any {m x : Int} {v : Value} {f : List Int} {w : World} (h : Reads w v f) (hf : Bd 8000000 f) (hm : 1 ≤ m ∧ m ≤ 1000000000) (hx : 0 ≤ x ∧ x < m) (hl : f.length ≤ 1000) :
    Calls Try.prog 114 #[.int .i64 m, v, .int .i64 x] w fun e w' => e = .returned (.int .i64 (valM m f x)) ∧ w = w' := by
  obtain ⟨a, cap, rfl, h1, h2⟩ := reads_nil_eq h
  obtain ⟨n, hn⟩ : ∃ n, f.length = n := ⟨_, rfl⟩
  rw [hn] at h h1 hl ⊢
  have HN := Lib.hid hn
  have HR := Lib.hid h
  have HF := Lib.hid hf
  clear h h2 hn hf
  go_enter Try.func114, Try.ntmps114
  go_wp2
  go_loop [7, 8] (fun y c => ∃ (j : Nat) (K : Int), c = .int .i64 K ∧ K + j + 1 = n ∧ j ≤ n ∧ y = .int .i64 (hvS m f x j)) (fun _ c => (intOf c + 1).toNat)
  case atStart => exact ⟨0, (n : Int) - 1, rfl, by omega, by omega, rfl⟩
  case round =>
    obtain ⟨j, K, rfl, hK, hjn, rfl⟩ := hrel
    by_cases hlt : j < n
    · obtain ⟨i, rfl⟩ : ∃ i : Nat, K = (i : Int) := ⟨n - 1 - j, by omega⟩
      have hij : f.length - 1 - j = i := by rw [HN.out]; omega
      obtain ⟨b, o, rfl, hc⟩ := HR.out.at (k := i) (by rw [HN.out]; omega)
      obtain ⟨m1, m2⟩ := val_num (f := f) hm hx j
      obtain ⟨m3, m4⟩ := hvS_bd hm.1 f x j
      have hb := HF.out i
      have HE := Lib.hid (show (hvS m f x j * x + el f i % m) % m = hvS m f x (j + 1) by rw [hvS, hij, Int.add_emod, Int.emod_emod_of_dvd _ (Int.dvd_refl m), ← Int.add_emod])
      have hem := emod_in (el f i) hm.1
      have HK := Lib.hid hK
      have hin : i < n := by omega
      clear hK hij
      go_wp2_with (first | (go_at_call 98; ((with_reducible refine (mod_any (el f i) m _ hm.1 (by omega)).mono ?_); rintro e w' ⟨rfl, rfl⟩)) | (go_at_call 98; ((with_reducible refine (calls_int (mod_any _ m _ hm.1 (by omega)) HE.out).mono ?_); rintro e w' ⟨rfl, rfl⟩)))
      go_round
      case rel => exact ⟨j + 1, (i : Int) - 1, rfl, by have := HK.out; omega, by omega, rfl⟩
      case measure => first | (simp [intOf]; done) | (simp [intOf]; omega)
    · have hK0 : K = -1 := by omega
      have HE := Lib.hid (show valM m f x = hvS m f x j by rw [valM, HN.out, show n = j by omega])
      subst hK0
      go_wp2
      go_ret
      exact ⟨ret_int HE.out.symm, rfl⟩

set_option maxHeartbeats 1000000 in
theorem l11Value_any {m x : Int} {v : Value} {f : List Int} {w : World} (h : Reads w v f) (hf : Bd 8000000 f) (hm : 1 ≤ m ∧ m ≤ 1000000000) (hx : 0 ≤ x ∧ x < m) (hl : f.length ≤ 1000) :
    Calls Try.prog 77 #[v, .int .i64 x, .int .i64 m] w fun e w' => e = .returned (.int .i64 (valM m f x)) ∧ w = w' := by
  obtain ⟨a, cap, rfl, h1, h2⟩ := reads_nil_eq h
  obtain ⟨n, hn⟩ : ∃ n, f.length = n := ⟨_, rfl⟩
  rw [hn] at h h1 hl ⊢
  have HN := Lib.hid hn
  have HR := Lib.hid h
  have HF := Lib.hid hf
  clear h h2 hn hf
  go_enter Try.func77, Try.ntmps77
  go_wp2
  go_loop [7, 8] (fun y c => ∃ (j : Nat) (K : Int), c = .int .i64 K ∧ K + j + 1 = n ∧ j ≤ n ∧ y = .int .i64 (hvS m f x j)) (fun _ c => (intOf c + 1).toNat)
  case atStart => exact ⟨0, (n : Int) - 1, rfl, by omega, by omega, rfl⟩
  case round =>
    obtain ⟨j, K, rfl, hK, hjn, rfl⟩ := hrel
    by_cases hlt : j < n
    · obtain ⟨i, rfl⟩ : ∃ i : Nat, K = (i : Int) := ⟨n - 1 - j, by omega⟩
      have hij : f.length - 1 - j = i := by rw [HN.out]; omega
      obtain ⟨b, o, rfl, hc⟩ := HR.out.at (k := i) (by rw [HN.out]; omega)
      obtain ⟨m1, m2⟩ := val_num (f := f) hm hx j
      obtain ⟨m3, m4⟩ := hvS_bd hm.1 f x j
      have hb := HF.out i
      have HE := Lib.hid (show (hvS m f x j * x + el f i) % m = hvS m f x (j + 1) by rw [hvS, hij])
      have HK := Lib.hid hK
      have hin : i < n := by omega
      clear hK hij
      go_wp2_with (go_at_call 95; ((with_reducible refine (calls_int (l01Mod_any _ m _ hm.1 (by omega)) HE.out).mono ?_); rintro e w' ⟨rfl, rfl⟩))
      go_round
      case rel => exact ⟨j + 1, (i : Int) - 1, rfl, by have := HK.out; omega, by omega, rfl⟩
      case measure => first | (simp [intOf]; done) | (simp [intOf]; omega)
    · have hK0 : K = -1 := by omega
      have HE := Lib.hid (show valM m f x = hvS m f x j by rw [valM, HN.out, show n = j by omega])
      subst hK0
      go_wp2
      go_ret
      exact ⟨ret_int HE.out.symm, rfl⟩

theorem nwt_num {m x : Int} {f : List Int} (hm : 1 ≤ m ∧ m ≤ 1000000000) (hx : 0 ≤ x ∧ x < m) : 0 ≤ valM m f x * invV m (valM m (derL f) x) ∧ valM m f x * invV m (valM m (derL f) x) ≤ 1000000000000000000 := by
  have h1 := valM_bd hm.1 f x
  have h2 := emod_in (bezX (valM m (derL f) x) m) hm.1
  have := Int.mul_nonneg h1.1 h2.1
  have := Int.mul_le_mul (show valM m f x ≤ 1000000000 by omega) (show bezX (valM m (derL f) x) m % m ≤ 1000000000 by omega) h2.1 (by omega)
  unfold invV
  omega
set_option maxHeartbeats 2000000 in
theorem newton_any {p n x : Int} {v : Value} {f : List Int} {w : World} (h : Reads w v f) (hr : ringB p n = true) (hf : Bd 1000000 f) (hl : f.length ≤ 9) (hx : 0 ≤ x ∧ x < p ^ n.toNat) (hu : valM (p ^ n.toNat) (derL f) x % p ≠ 0) :
    Calls Try.prog 115 #[.agg #[.int .i64 p, .int .i64 n], v, .int .i64 x] w fun e w' => e = .returned (.tuple #[.int .i64 (nwt (p ^ n.toNat) f x), .bool true]) ∧ Below w.heap.size w w' := by
  obtain ⟨⟨p1, p2⟩, r2, r3⟩ := ring_bd hr
  have HR := Lib.hid hr
  have HA := Lib.hid h
  have HF := Lib.hid hf
  have HD := Lib.hid (derL_bd hf hl)
  have HL := Lib.hid (derL_len f)
  obtain ⟨m, hm⟩ : ∃ m, p ^ n.toNat = m := ⟨_, rfl⟩
  rw [hm] at r3 hx hu ⊢
  have HM := Lib.hid hm
  obtain ⟨s, hs⟩ : ∃ s, valM m (derL f) x = s := ⟨_, rfl⟩
  have hsb := valM_bd (show 1 ≤ m by omega) (derL f) x
  obtain ⟨u1, u2⟩ := nwt_num (f := f) (show 1 ≤ m ∧ m ≤ 1000000000 by omega) hx
  have hvb := valM_bd (show 1 ≤ m by omega) f x
  rw [hs] at hsb hu u1 u2
  have HS := Lib.hid hs
  have hub : (s % p == 0) = false := by simpa using hu
  have HV := Lib.hid (show nwt m f x = (x - valM m f x * invV m s) % m by rw [nwt, hs])
  have hil := inv_in (p := m) (a := s) (by omega)
  have HI := Lib.hid (show ∀ w, Calls Try.prog 127 #[.agg #[.int .i64 p, .int .i64 n], .int .i64 s] w fun e w' => e = .returned (.int .i64 (invV m s)) ∧ Below w.heap.size w w' from fun w => by have := inverse_any p n s w hr ⟨by omega, by omega⟩; rw [hm] at this; exact this)
  clear h hr hf hm hs hu
  go_enter Try.func115, Try.ntmps115
  go_wp2_with (go_at_call 59; with_reducible refine (calls_int (modulus_any _ _ _ HR.out) HM.out).mono ?_)
  rintro _ w1 ⟨rfl, hb1⟩
  obtain ⟨c1, c2⟩ := box_cells hb1
  have hs1 := hb1.size
  simp at hs1
  have HB1 := Lib.hid (show Below w.heap.size w w1 from (below_box _).trans (hb1.mono (by simp)))
  clear hb1
  go_wp2_with (go_at_call 70; with_reducible refine (derivative_any (HA.out.step HB1.out) HF.out ⟨by omega, by omega⟩ (by omega)).mono ?_)
  rintro _ w2 ⟨v2, rfl, o2, hb2⟩
  have c3 := (hb2.cell (p := ⟨w.heap.size, 0, none⟩) (by show w.heap.size < _; omega)).trans c1
  have c4 := (hb2.cell (p := ⟨w.heap.size, 1, none⟩) (by show w.heap.size < _; omega)).trans c2
  have hs2 := hb2.size
  have hlt2 : w.heap.size < w2.heap.size := by omega
  have HB2 := Lib.hid (HB1.out.trans (hb2.mono HB1.out.size))
  have HA2 := Lib.hid (HA.out.step HB2.out)
  have HO2 := Lib.hid o2.reads
  clear hb2 o2 c1 c2
  go_wp2_with (go_at_call 114; ((with_reducible refine (calls_int (valueBy_any HO2.out HD.out ⟨by omega, by omega⟩ hx (by rw [HL.out]; omega)) HS.out).mono ?_); rintro e w' ⟨rfl, rfl⟩))
  obtain ⟨a2, k2, hv2, _, _⟩ := reads_nil_eq HA2.out
  subst hv2
  go_wp2_with (first | (go_at_call 114; ((with_reducible refine (valueBy_any (HA2.out.step (wext_below _ _)) (HF.out.mono (by omega)) ⟨by omega, by omega⟩ hx (by omega)).mono ?_); rintro e w' ⟨rfl, rfl⟩)) | (go_at_call 127; ((with_reducible refine (HI.out _).mono ?_); rintro e w1_hb1 ⟨rfl, hb1⟩; obtain ⟨chb1, fhb1, shb1⟩ := bfacts2 hb1; (try simp at shb1))) | (go_at_call 98; ((with_reducible refine (calls_int (mod_any _ _ _ (by omega) (by omega)) HV.out.symm).mono ?_); rintro e w' ⟨rfl, rfl⟩)) | (refine wp_region_wext (by kernel_rfl) (by kernel_rfl) ?_; (repeat (go_big_quiet_step (first | (go_at_call 114; with_reducible refine calls_wext_same (valueBy_any (HA2.out.step (wext_below _ _)) (HF.out.mono (by omega)) ⟨by omega, by omega⟩ hx (by omega))) | (go_at_call 127; with_reducible refine calls_wext (HI.out _)) | (go_at_call 98; with_reducible refine calls_wext_same (calls_int (mod_any _ _ _ (by omega) (by omega)) HV.out.symm))))); refine wpQuiet_nil ?_; intro w1_hbq hbq; replace hbq := below_of_wext hbq; obtain ⟨chbq, fhbq, shbq⟩ := bfacts2 hbq; (try simp at shbq)))
  go_ret2
  exact ⟨rfl, HB2.out.trans (hbq.mono HB2.out.size)⟩

set_option maxHeartbeats 2000000 in
theorem l11Step_any {m x : Int} {v : Value} {f : List Int} {w : World} (h : Reads w v f) (hf : Bd 1000000 f) (hl : f.length ≤ 9) (hm : 1 ≤ m ∧ m ≤ 1000000000) (hx : 0 ≤ x ∧ x < m) :
    Calls Try.prog 113 #[v, .int .i64 x, .int .i64 m] w fun e w' => e = .returned (.int .i64 (nwt m f x)) ∧ Below w.heap.size w w' := by
  have HA := Lib.hid h
  have HF := Lib.hid hf
  have HD := Lib.hid (derL_bd hf hl)
  have HL := Lib.hid (derL_len f)
  have hsb := valM_bd hm.1 (derL f) x
  obtain ⟨u1, u2⟩ := nwt_num (f := f) hm hx
  have hvb := valM_bd hm.1 f x
  have HV := Lib.hid (show (x - valM m f x * invV m (valM m (derL f) x)) % m = nwt m f x from rfl)
  clear h hf
  go_enter Try.func113, Try.ntmps113
  go_wp2_with (first | (go_at_call 77; ((with_reducible refine (l11Value_any HA.out (HF.out.mono (by omega)) hm hx (by omega)).mono ?_); rintro e w' ⟨rfl, rfl⟩)) | (go_at_call 110; with_reducible refine (l06Derivative_any HA.out HF.out ⟨by omega, by omega⟩ (by omega)).mono ?_))
  rintro _ w2 ⟨v2, rfl, o2, hb2⟩
  have HO2 := Lib.hid o2.reads
  clear o2
  go_wp2_with (first | (go_at_call 77; ((with_reducible refine (l11Value_any HO2.out HD.out hm hx (by rw [HL.out]; omega)).mono ?_); rintro e w' ⟨rfl, rfl⟩)) | (go_at_call 105; ((with_reducible refine (l02Inverse_any _ _ _ ⟨by omega, by omega⟩ hm).mono ?_); rintro e w' ⟨rfl, rfl⟩)) | (go_at_call 95; ((with_reducible refine (calls_int (l01Mod_any _ _ _ (by omega) (by omega)) HV.out).mono ?_); rintro e w' ⟨rfl, rfl⟩)))
  go_ret
  exact ⟨rfl, hb2⟩

def lifR (p n : Int) (f : List Int) (a : Int) : Int := if simB p f a then liftV p n f a else 0
theorem simB_ways (p : Int) (f : List Int) (a : Int) : (simB p f a = true ∧ valM p f a = 0 ∧ (valM p (derL f) a == 0) = false ∧ (valM p (derL f) a != 0) = true) ∨ (simB p f a = false ∧ (valM p f a != 0) = true ∧ (valM p f a == 0) = false) ∨ (simB p f a = false ∧ valM p f a = 0 ∧ valM p (derL f) a = 0) := by
  unfold simB
  by_cases h1 : valM p f a = 0
  · by_cases h2 : valM p (derL f) a = 0
    · exact .inr (.inr ⟨by simp [h1, h2], h1, h2⟩)
    · exact .inl ⟨by simp [h1, h2], h1, by simpa using h2, by simpa using h2⟩
  · exact .inr (.inl ⟨by simp [h1], by simpa using h1, by simpa using h1⟩)
set_option maxHeartbeats 4000000 in
theorem lift_any {p n a : Int} {v : Value} {f : List Int} {w : World} (h : Reads w v f) (hr : ringB p n = true) (hpr : primeB p = true) (hf : Bd 1000000 f) (hl : f.length ≤ 9) (ha : 0 ≤ a ∧ a < p) :
    Calls Try.prog 76 #[.agg #[.int .i64 p, .int .i64 n], v, .int .i64 a] w fun e w' => e = .returned (.tuple #[.int .i64 (lifR p n f a), .bool (simB p f a)]) ∧ Below w.heap.size w w' := by
  obtain ⟨⟨p1, p2⟩, r2, r3⟩ := ring_bd hr
  have HR := Lib.hid hr
  have HPR := Lib.hid hpr
  have HA0 := Lib.hid h
  have HA := Lib.hid (h.step (below_box (.cells #[.int .i64 p, .int .i64 n] 26)))
  have HF := Lib.hid hf
  have HF8 := Lib.hid (hf.mono (show (1000000 : Int) ≤ 8000000 by omega))
  have HD := Lib.hid (derL_bd hf hl)
  have HL := Lib.hid (derL_len f)
  have hlen := HA.out.1
  rcases simB_ways p f a with ⟨h0, h1, h2, h3⟩ | ⟨h0, h1, h2⟩ | ⟨h0, h1, h2⟩
  · have HS := Lib.hid h0
    have H1 := Lib.hid h1
    have HT := Lib.hid (show lifR p n f a = liftV p n f a by rw [lifR, if_pos h0])
    have HI := Lib.hid (lin_start hr h0 ha)
    clear h hr hpr hf h0 h1 h3
    go_enter Try.func76, Try.ntmps76
    go_wp2_with (first | (go_at_call 114; ((with_reducible refine (calls_int (valueBy_any HA.out HF8.out ⟨by omega, by omega⟩ ha (by omega)) H1.out).mono ?_); rintro e w' ⟨rfl, rfl⟩)) | (go_at_call 70; with_reducible refine (derivative_any HA.out HF.out ⟨by omega, by omega⟩ (by omega)).mono ?_))
    rintro _ w2 ⟨v2, rfl, o2, hb2⟩
    have HO2 := Lib.hid o2.reads
    obtain ⟨c1, c2⟩ := box_cells hb2
    have hs2 := hb2.size
    simp at hs2
    have HB2 := Lib.hid (show Below w.heap.size w w2 from (below_box _).trans (hb2.mono (by simp)))
    clear o2 hb2
    go_wp2_with (go_at_call 114; ((with_reducible refine (valueBy_any HO2.out HD.out ⟨by omega, by omega⟩ ha (by rw [HL.out]; omega)).mono ?_); rintro e w' ⟨rfl, rfl⟩))
    go_loopg [9] n.toNat (fun k x wr => ∃ (X c : Int), x = .int .i64 X ∧ Hid (LInv p n f (liftV p n f a) k c X) ∧ Below w2.heap.size w2 wr)
    case atStart => exact ⟨a, 1, rfl, HI, Below.refl _ _⟩
    case round =>
      clear HI
      obtain ⟨X, c, rfl, HI, hbel⟩ := hrel
      have HW := Lib.hid hbel
      have hsw := hbel.size
      clear hbel
      obtain ⟨x1, x2⟩ := HI.out.inm
      have e1 := (HW.out.cell (p := ⟨w.heap.size, 0, none⟩) (by show w.heap.size < _; omega)).trans c1
      have e2 := (HW.out.cell (p := ⟨w.heap.size, 1, none⟩) (by show w.heap.size < _; omega)).trans c2
      have HAW := Lib.hid ((HA0.out.step HB2.out).step HW.out)
      have HBW := Lib.hid (HB2.out.trans (HW.out.mono HB2.out.size))
      go_wp2_with (go_at_call 59; with_reducible refine (modulus_any _ _ _ HR.out).mono ?_)
      rintro _ w3 ⟨rfl, hb3⟩
      have HA3 := Lib.hid (HAW.out.step hb3)
      have e3 := (hb3.cell (p := ⟨w.heap.size, 0, none⟩) (by show w.heap.size < _; omega)).trans e1
      have e4 := (hb3.cell (p := ⟨w.heap.size, 1, none⟩) (by show w.heap.size < _; omega)).trans e2
      have HB3 := Lib.hid hb3
      clear hb3 e1 e2
      by_cases hv : valM (p ^ n.toNat) f X = 0
      · have HV := Lib.hid hv
        have HE := Lib.hid (lin_end HI.out hv)
        clear hv
        go_wp2_with (go_at_call 114; ((with_reducible refine (calls_int (valueBy_any HA3.out HF8.out ⟨by omega, by omega⟩ ⟨x1, x2⟩ (by omega)) HV.out).mono ?_); rintro e w' ⟨rfl, rfl⟩))
        go_ret2
        exact ⟨by rw [HT.out, HE.out, HS.out]; rfl, HBW.out.trans (HB3.out.mono HBW.out.size)⟩
      · have hv' : (valM (p ^ n.toNat) f X != 0) = true := by simpa using hv
        have hc : c < n := by
          apply Decidable.byContradiction
          intro hc
          exact hv (lin_zero HR.out HI.out hc)
        obtain ⟨k1, k2⟩ := lin_step HR.out HPR.out HI.out hc
        have HN := Lib.hid k2
        have HU := Lib.hid (unit_slope HR.out HI.out.slope)
        clear hv k2
        go_wp2_with (first | (go_at_call 114; ((with_reducible refine (valueBy_any HA3.out HF8.out ⟨by omega, by omega⟩ ⟨x1, x2⟩ (by omega)).mono ?_); rintro e w' ⟨rfl, rfl⟩)) | (go_at_call 115; with_reducible refine (newton_any HA3.out HR.out HF.out (by omega) ⟨x1, x2⟩ HU.out).mono ?_))
        rintro _ w4 ⟨rfl, hb4⟩
        go_wp2
        go_roundg (gk - 1)
        case rel => exact ⟨nwt (p ^ n.toNat) f X, 2 * c, rfl, HN, HW.out.trans ((HB3.out.trans (hb4.mono HB3.out.size)).mono HW.out.size)⟩
        case measure => omega
  · have HS := Lib.hid h0
    have HT := Lib.hid (show lifR p n f a = 0 by rw [lifR, if_neg (by rw [h0]; simp)])
    clear h hr hpr hf h0
    go_enter Try.func76, Try.ntmps76
    go_wp2_with (first | (go_at_call 114; ((with_reducible refine (valueBy_any HA.out HF8.out ⟨by omega, by omega⟩ ha (by omega)).mono ?_); rintro e w' ⟨rfl, rfl⟩)))
    go_ret2
    exact ⟨by rw [HT.out, HS.out]; rfl, below_box _⟩
  · have HS := Lib.hid h0
    have H1 := Lib.hid h1
    have H2 := Lib.hid h2
    have HT := Lib.hid (show lifR p n f a = 0 by rw [lifR, if_neg (by rw [h0]; simp)])
    clear h hr hpr hf h0 h1 h2
    go_enter Try.func76, Try.ntmps76
    go_wp2_with (first | (go_at_call 114; ((with_reducible refine (calls_int (valueBy_any HA.out HF8.out ⟨by omega, by omega⟩ ha (by omega)) H1.out).mono ?_); rintro e w' ⟨rfl, rfl⟩)) | (go_at_call 70; with_reducible refine (derivative_any HA.out HF.out ⟨by omega, by omega⟩ (by omega)).mono ?_))
    rintro _ w2 ⟨v2, rfl, o2, hb2⟩
    have HO2 := Lib.hid o2.reads
    clear o2
    go_wp2_with (go_at_call 114; ((with_reducible refine (calls_int (valueBy_any HO2.out HD.out ⟨by omega, by omega⟩ ha (by rw [HL.out]; omega)) H2.out).mono ?_); rintro e w' ⟨rfl, rfl⟩))
    go_ret2
    exact ⟨by rw [HT.out, HS.out]; rfl, (below_box _).trans (hb2.mono (by simp))⟩

theorem l11Simple_any {p a : Int} {v : Value} {f : List Int} {w : World} (h : Reads w v f) (hp : 2 ≤ p ∧ p ≤ 97) (hf : Bd 1000000 f) (hl : f.length ≤ 9) (ha : 0 ≤ a ∧ a < p) :
    Calls Try.prog 74 #[v, .int .i64 a, .int .i64 p] w fun e w' => e = .returned (.bool (simB p f a)) ∧ Below w.heap.size w w' := by
  have HA := Lib.hid h
  have HF := Lib.hid hf
  have HF8 := Lib.hid (hf.mono (show (1000000 : Int) ≤ 8000000 by omega))
  have HD := Lib.hid (derL_bd hf hl)
  have HL := Lib.hid (derL_len f)
  rcases simB_ways p f a with ⟨h0, h1, h2, h3⟩ | ⟨h0, h1, h2⟩ | ⟨h0, h1, h2⟩
  · have HS := Lib.hid h0
    have H1 := Lib.hid h1
    clear h hf h0 h1 h2
    go_enter Try.func74, Try.ntmps74
    go_wp2_with (first | (go_at_call 77; ((with_reducible refine (calls_int (l11Value_any HA.out HF8.out ⟨by omega, by omega⟩ ha (by omega)) H1.out).mono ?_); rintro e w' ⟨rfl, rfl⟩)) | (go_at_call 110; with_reducible refine (l06Derivative_any HA.out HF.out ⟨by omega, by omega⟩ (by omega)).mono ?_))
    rintro _ w2 ⟨v2, rfl, o2, hb2⟩
    have HO2 := Lib.hid o2.reads
    clear o2
    go_wp2_with (go_at_call 77; ((with_reducible refine (l11Value_any HO2.out HD.out ⟨by omega, by omega⟩ ha (by rw [HL.out]; omega)).mono ?_); rintro e w' ⟨rfl, rfl⟩))
    go_ret
    exact ⟨ret_bool HS.out.symm, hb2⟩
  · have HS := Lib.hid h0
    clear h hf h0 h1
    go_enter Try.func74, Try.ntmps74
    go_wp2_with (first | (go_at_call 77; ((with_reducible refine (l11Value_any HA.out HF8.out ⟨by omega, by omega⟩ ha (by omega)).mono ?_); rintro e w' ⟨rfl, rfl⟩)))
    go_ret
    exact ⟨ret_bool HS.out.symm, Below.refl _ _⟩
  · have HS := Lib.hid h0
    have H1 := Lib.hid h1
    have H2 := Lib.hid h2
    clear h hf h0 h1 h2
    go_enter Try.func74, Try.ntmps74
    go_wp2_with (first | (go_at_call 77; ((with_reducible refine (calls_int (l11Value_any HA.out HF8.out ⟨by omega, by omega⟩ ha (by omega)) H1.out).mono ?_); rintro e w' ⟨rfl, rfl⟩)) | (go_at_call 110; with_reducible refine (l06Derivative_any HA.out HF.out ⟨by omega, by omega⟩ (by omega)).mono ?_))
    rintro _ w2 ⟨v2, rfl, o2, hb2⟩
    have HO2 := Lib.hid o2.reads
    clear o2
    go_wp2_with (go_at_call 77; ((with_reducible refine (calls_int (l11Value_any HO2.out HD.out ⟨by omega, by omega⟩ ha (by rw [HL.out]; omega)) H2.out).mono ?_); rintro e w' ⟨rfl, rfl⟩))
    go_ret
    exact ⟨ret_bool HS.out.symm, hb2⟩
set_option maxHeartbeats 2000000 in
theorem l11Lift_any {p n a : Int} {v : Value} {f : List Int} {w : World} (h : Reads w v f) (hr : ringB p n = true) (hpr : primeB p = true) (hf : Bd 1000000 f) (hl : f.length ≤ 9) (ha : 0 ≤ a ∧ a < p) (hs : simB p f a = true) :
    Calls Try.prog 75 #[.agg #[.int .i64 p, .int .i64 n], v, .int .i64 a] w fun e w' => e = .returned (.int .i64 (liftV p n f a)) ∧ Below w.heap.size w w' := by
  obtain ⟨⟨p1, p2⟩, r2, r3⟩ := ring_bd hr
  have HR := Lib.hid hr
  have HPR := Lib.hid hpr
  have HA := Lib.hid (h.step (below_box (.cells #[.int .i64 p, .int .i64 n] 26)))
  have HF := Lib.hid hf
  have HI := Lib.hid (lin_start hr hs ha)
  clear h hr hpr hf hs
  go_enter Try.func75, Try.ntmps75
  go_wp2_with (go_at_call 49; ((with_reducible refine (l02Modulus_ring _ _ _ HR.out).mono ?_); rintro e w' ⟨rfl, rfl⟩))
  go_loopg [2, 8] n.toNat (fun k x y wr => ∃ (X c : Int), x = .int .i64 X ∧ y = .int .i64 c ∧ 1 ≤ c ∧ c ≤ 100 ∧ Hid (LInv p n f (liftV p n f a) k c X) ∧ Below (w.heap.size + 1) (w.alloc (.cells #[.int .i64 p, .int .i64 n] 26)) wr)
  case atStart => exact ⟨a, 1, rfl, rfl, by omega, by omega, HI, by have := Below.refl (w.heap.size + 1) (w.alloc (.cells #[.int .i64 p, .int .i64 n] 26)); exact this⟩
  case round =>
    clear HI
    obtain ⟨X, c, rfl, rfl, c1, c2, HI, hbel⟩ := hrel
    have e1 := hbel.cell (p := ⟨w.heap.size, 0, none⟩) (by simp)
    have e2 := hbel.cell (p := ⟨w.heap.size, 1, none⟩) (by simp)
    simp at e1 e2
    have HW := Lib.hid (show Below (w.alloc (.cells #[.int .i64 p, .int .i64 n] 26)).heap.size (w.alloc (.cells #[.int .i64 p, .int .i64 n] 26)) wr by simpa using hbel)
    clear hbel
    obtain ⟨x1, x2⟩ := HI.out.inm
    have HAW := Lib.hid (HA.out.step HW.out)
    by_cases hc : c < n
    · obtain ⟨k1, k2⟩ := lin_step HR.out HPR.out HI.out hc
      have HN := Lib.hid k2
      clear k2
      go_wp2_with (go_at_call 113; with_reducible refine (l11Step_any HAW.out HF.out hl ⟨by omega, by omega⟩ ⟨x1, x2⟩).mono ?_)
      rintro _ w4 ⟨rfl, hb4⟩
      go_wp2
      go_roundg (gk - 1)
      case rel => exact ⟨nwt (p ^ n.toNat) f X, 2 * c, rfl, rfl, by omega, by omega, HN, by have := HW.out.trans (hb4.mono HW.out.size); simpa using this⟩
      case measure => omega
    · have HE := Lib.hid (lin_end HI.out (lin_zero HR.out HI.out hc))
      go_wp2
      go_ret
      exact ⟨ret_int HE.out.symm, (below_box _).trans (HW.out.mono (by simp))⟩

/-! ### LiftRoot -/
def lrC (p n : Int) (f : List Int) (a : Int) : Int := if ringB p n && polyB f then if inB a 0 (p - 1) then if simB p f a then 0 else 5 else 2 else 1
def lrV (p n : Int) (f : List Int) (a : Int) : Int := if lrC p n f a = 0 then liftV p n f a else 0
theorem ring_prime {p n : Int} (h : ringB p n = true) : primeB p = true := by
  simp only [ringB, smallB, Bool.and_eq_true] at h
  exact h.1.1.2

set_option maxHeartbeats 2000000 in
theorem LiftRoot_any {p n a : Int} {v : Value} {f : List Int} {w : World} (h : Reads w v f) (hn : n ≤ 9223372036854775807) (hn' : -9223372036854775808 ≤ n) :
    Calls Try.prog 35 #[.agg #[.int .i64 p, .int .i64 n], v, .int .i64 a] w fun e w' => e = .returned (.tuple #[.int .i64 (lrV p n f a), .int .i64 (lrC p n f a)]) ∧ Below w.heap.size w w' := by
  have HR := Lib.hid (h.step (below_box (.cells #[.int .i64 p, .int .i64 n] 26)))
  clear h
  rcases Bool.eq_false_or_eq_true (ringB p n) with hs | hs
  · have HS := Lib.hid hs
    have HPR := Lib.hid (ring_prime hs)
    obtain ⟨⟨p1, p2⟩, r2, r3⟩ := ring_bd hs
    clear hs
    rcases Bool.eq_false_or_eq_true (polyB f) with hp | hp
    · have HP := Lib.hid hp
      obtain ⟨p9, hfb, _⟩ := polyB_bd hp
      have HF := Lib.hid (Bd.of (show (0 : Int) ≤ 1000000 by omega) hfb)
      clear hp hfb
      rcases Bool.eq_false_or_eq_true (inB a 0 (p - 1)) with hi | hi
      · have HI := Lib.hid hi
        obtain ⟨a1, a2⟩ := inB_iff.1 hi
        clear hi
        rcases Bool.eq_false_or_eq_true (simB p f a) with hm | hm
        all_goals
          have HM := Lib.hid hm
          clear hm
          go_enter Try.func35, Try.ntmps35
          go_wp2_with (go_at_call 51; with_reducible refine (calls_bool (IsRing_any _ _ _ hn hn') HS.out).mono ?_)
          rintro _ w1 ⟨rfl, hb1⟩
          obtain ⟨c1, c2⟩ := box_cells hb1
          have hs1 := hb1.size
          simp at hs1
          have HR1 := Lib.hid (HR.out.step hb1)
        ·
          go_wp2_with (first | (go_at_call 57; ((with_reducible refine (calls_bool (IsPolynomial_any HR1.out) HP.out).mono ?_); rintro e w' ⟨rfl, rfl⟩)) | (go_at_call 72; ((with_reducible refine (calls_bool (within_any _ _ _ _) HI.out).mono ?_); rintro e w' ⟨rfl, rfl⟩)) | (go_at_call 76; with_reducible refine (lift_any HR1.out HS.out HPR.out HF.out p9 ⟨by omega, by omega⟩).mono ?_))
          rw [HM.out]
          rintro _ w2 ⟨rfl, hb2⟩
          go_wp2
          go_ret2
          exact ⟨by simp [lrV, lrC, lifR, HS.out, HP.out, HI.out, HM.out], (below_box _).trans ((hb1.trans (hb2.mono hb1.size)).mono (by simp))⟩
        ·
          go_wp2_with (first | (go_at_call 57; ((with_reducible refine (calls_bool (IsPolynomial_any HR1.out) HP.out).mono ?_); rintro e w' ⟨rfl, rfl⟩)) | (go_at_call 72; ((with_reducible refine (calls_bool (within_any _ _ _ _) HI.out).mono ?_); rintro e w' ⟨rfl, rfl⟩)) | (go_at_call 76; with_reducible refine (lift_any HR1.out HS.out HPR.out HF.out p9 ⟨by omega, by omega⟩).mono ?_))
          rw [HM.out]
          rintro _ w2 ⟨rfl, hb2⟩
          go_wp2
          go_ret2
          exact ⟨by simp [lrV, lrC, lifR, HS.out, HP.out, HI.out, HM.out], (below_box _).trans ((hb1.trans (hb2.mono hb1.size)).mono (by simp))⟩
      · have HI := Lib.hid hi
        clear hi
        go_enter Try.func35, Try.ntmps35
        go_wp2_with (go_at_call 51; with_reducible refine (calls_bool (IsRing_any _ _ _ hn hn') HS.out).mono ?_)
        rintro _ w1 ⟨rfl, hb1⟩
        obtain ⟨c1, c2⟩ := box_cells hb1
        have HR1 := Lib.hid (HR.out.step hb1)
        go_wp2_with (first | (go_at_call 57; ((with_reducible refine (calls_bool (IsPolynomial_any HR1.out) HP.out).mono ?_); rintro e w' ⟨rfl, rfl⟩)) | (go_at_call 72; ((with_reducible refine (calls_bool (within_any _ _ _ _) HI.out).mono ?_); rintro e w' ⟨rfl, rfl⟩)))
        go_ret2
        exact ⟨by simp [lrV, lrC, HS.out, HP.out, HI.out], (by repeat (first | assumption | exact Below.refl _ _ | exact below_box _ | refine Below.drew ?_ | refine Below.setCell ?_ (by first | (simp; done) | (simp; omega)) _ | (refine below_step (by assumption) (by first | omega | (simp; done) | (simp; omega)) ?_) | (refine Below.alloc ?_ (by first | omega | (simp; done) | (simp; omega)) _)))⟩
    · have HP := Lib.hid hp
      clear hp
      go_enter Try.func35, Try.ntmps35
      go_wp2_with (go_at_call 51; with_reducible refine (calls_bool (IsRing_any _ _ _ hn hn') HS.out).mono ?_)
      rintro _ w1 ⟨rfl, hb1⟩
      have HR1 := Lib.hid (HR.out.step hb1)
      go_wp2_with (go_at_call 57; ((with_reducible refine (calls_bool (IsPolynomial_any HR1.out) HP.out).mono ?_); rintro e w' ⟨rfl, rfl⟩))
      go_ret2
      exact ⟨by simp [lrV, lrC, HS.out, HP.out], (by repeat (first | assumption | exact Below.refl _ _ | exact below_box _ | refine Below.drew ?_ | refine Below.setCell ?_ (by first | (simp; done) | (simp; omega)) _ | (refine below_step (by assumption) (by first | omega | (simp; done) | (simp; omega)) ?_) | (refine Below.alloc ?_ (by first | omega | (simp; done) | (simp; omega)) _)))⟩
  · have HS := Lib.hid hs
    clear hs
    go_enter Try.func35, Try.ntmps35
    go_wp2_with (go_at_call 51; with_reducible refine (calls_bool (IsRing_any _ _ _ hn hn') HS.out).mono ?_)
    rintro _ w1 ⟨rfl, hb1⟩
    go_wp2
    go_ret2
    exact ⟨by simp [lrV, lrC, HS.out], (by repeat (first | assumption | exact Below.refl _ _ | exact below_box _ | refine Below.drew ?_ | refine Below.setCell ?_ (by first | (simp; done) | (simp; omega)) _ | (refine below_step (by assumption) (by first | omega | (simp; done) | (simp; omega)) ?_) | (refine Below.alloc ?_ (by first | omega | (simp; done) | (simp; omega)) _)))⟩

set_option maxHeartbeats 2000000 in
theorem sLiftRoot_any {p n a : Int} {v : Value} {f : List Int} {w : World} (h : Reads w v f) (hn : n ≤ 9223372036854775807) (hn' : -9223372036854775808 ≤ n) :
    Calls Try.prog 34 #[.agg #[.int .i64 p, .int .i64 n], v, .int .i64 a] w fun e w' => e = .returned (.tuple #[.int .i64 (lrV p n f a), .int .i64 (lrC p n f a)]) ∧ Below w.heap.size w w' := by
  have HR := Lib.hid (h.step (below_box (.cells #[.int .i64 p, .int .i64 n] 26)))
  clear h
  rcases Bool.eq_false_or_eq_true (ringB p n) with hs | hs
  · have HS := Lib.hid hs
    have HPR := Lib.hid (ring_prime hs)
    obtain ⟨⟨p1, p2⟩, r2, r3⟩ := ring_bd hs
    clear hs
    rcases Bool.eq_false_or_eq_true (polyB f) with hp | hp
    · have HP := Lib.hid hp
      obtain ⟨p9, hfb, _⟩ := polyB_bd hp
      have HF := Lib.hid (Bd.of (show (0 : Int) ≤ 1000000 by omega) hfb)
      clear hp hfb
      rcases Bool.eq_false_or_eq_true (inB a 0 (p - 1)) with hi | hi
      · have HI := Lib.hid hi
        obtain ⟨a1, a2⟩ := inB_iff.1 hi
        clear hi
        rcases Bool.eq_false_or_eq_true (simB p f a) with hm | hm
        all_goals
          have HM := Lib.hid hm
          clear hm
          go_enter Try.func34, Try.ntmps34
          go_wp2_with (go_at_call 48; with_reducible refine (calls_bool (specIsRing_any _ _ _ hn hn') HS.out).mono ?_)
          rintro _ w1 ⟨rfl, hb1⟩
          obtain ⟨c1, c2⟩ := box_cells hb1
          have hs1 := hb1.size
          simp at hs1
          have HR1 := Lib.hid (HR.out.step hb1)
        ·
          go_wp2_with (first | (go_at_call 55; ((with_reducible refine (calls_bool (sIsPolynomial_any HR1.out) HP.out).mono ?_); rintro e w' ⟨rfl, rfl⟩)) | (go_at_call 50; ((with_reducible refine (calls_bool (l01In_any _ _ _ _) HI.out).mono ?_); rintro e w' ⟨rfl, rfl⟩)) | (go_at_call 74; with_reducible refine (calls_bool (l11Simple_any HR1.out ⟨p1, p2⟩ HF.out p9 ⟨by omega, by omega⟩) HM.out).mono ?_))
          rintro _ w2 ⟨rfl, hb2⟩
          have e1 := (hb2.cell (p := ⟨w.heap.size, 0, none⟩) (by show w.heap.size < _; omega)).trans c1
          have e2 := (hb2.cell (p := ⟨w.heap.size, 1, none⟩) (by show w.heap.size < _; omega)).trans c2
          have HB2 := Lib.hid hb2
          clear hb2
          go_wp2_with (go_at_call 75; with_reducible refine (l11Lift_any (HR1.out.step HB2.out) HS.out HPR.out HF.out p9 ⟨by omega, by omega⟩ HM.out).mono ?_)
          rintro _ w3 ⟨rfl, hb3⟩
          go_wp2
          go_ret2
          exact ⟨by simp [lrV, lrC, HS.out, HP.out, HI.out, HM.out], (below_box _).trans ((hb1.trans ((HB2.out.trans (hb3.mono HB2.out.size)).mono hb1.size)).mono (by simp))⟩
        ·
          go_wp2_with (first | (go_at_call 55; ((with_reducible refine (calls_bool (sIsPolynomial_any HR1.out) HP.out).mono ?_); rintro e w' ⟨rfl, rfl⟩)) | (go_at_call 50; ((with_reducible refine (calls_bool (l01In_any _ _ _ _) HI.out).mono ?_); rintro e w' ⟨rfl, rfl⟩)) | (go_at_call 74; with_reducible refine (calls_bool (l11Simple_any HR1.out ⟨p1, p2⟩ HF.out p9 ⟨by omega, by omega⟩) HM.out).mono ?_))
          rintro _ w2 ⟨rfl, hb2⟩
          go_wp2
          go_ret2
          exact ⟨by simp [lrV, lrC, HS.out, HP.out, HI.out, HM.out], (below_box _).trans ((hb1.trans (hb2.mono hb1.size)).mono (by simp))⟩
      · have HI := Lib.hid hi
        clear hi
        go_enter Try.func34, Try.ntmps34
        go_wp2_with (go_at_call 48; with_reducible refine (calls_bool (specIsRing_any _ _ _ hn hn') HS.out).mono ?_)
        rintro _ w1 ⟨rfl, hb1⟩
        obtain ⟨c1, c2⟩ := box_cells hb1
        have HR1 := Lib.hid (HR.out.step hb1)
        go_wp2_with (first | (go_at_call 55; ((with_reducible refine (calls_bool (sIsPolynomial_any HR1.out) HP.out).mono ?_); rintro e w' ⟨rfl, rfl⟩)) | (go_at_call 50; ((with_reducible refine (calls_bool (l01In_any _ _ _ _) HI.out).mono ?_); rintro e w' ⟨rfl, rfl⟩)))
        go_ret2
        exact ⟨by simp [lrV, lrC, HS.out, HP.out, HI.out], (by repeat (first | assumption | exact Below.refl _ _ | exact below_box _ | refine Below.drew ?_ | refine Below.setCell ?_ (by first | (simp; done) | (simp; omega)) _ | (refine below_step (by assumption) (by first | omega | (simp; done) | (simp; omega)) ?_) | (refine Below.alloc ?_ (by first | omega | (simp; done) | (simp; omega)) _)))⟩
    · have HP := Lib.hid hp
      clear hp
      go_enter Try.func34, Try.ntmps34
      go_wp2_with (go_at_call 48; with_reducible refine (calls_bool (specIsRing_any _ _ _ hn hn') HS.out).mono ?_)
      rintro _ w1 ⟨rfl, hb1⟩
      have HR1 := Lib.hid (HR.out.step hb1)
      go_wp2_with (go_at_call 55; ((with_reducible refine (calls_bool (sIsPolynomial_any HR1.out) HP.out).mono ?_); rintro e w' ⟨rfl, rfl⟩))
      go_ret2
      exact ⟨by simp [lrV, lrC, HS.out, HP.out], (by repeat (first | assumption | exact Below.refl _ _ | exact below_box _ | refine Below.drew ?_ | refine Below.setCell ?_ (by first | (simp; done) | (simp; omega)) _ | (refine below_step (by assumption) (by first | omega | (simp; done) | (simp; omega)) ?_) | (refine Below.alloc ?_ (by first | omega | (simp; done) | (simp; omega)) _)))⟩
  · have HS := Lib.hid hs
    clear hs
    go_enter Try.func34, Try.ntmps34
    go_wp2_with (go_at_call 48; with_reducible refine (calls_bool (specIsRing_any _ _ _ hn hn') HS.out).mono ?_)
    rintro _ w1 ⟨rfl, hb1⟩
    go_wp2
    go_ret2
    exact ⟨by simp [lrV, lrC, HS.out], (by repeat (first | assumption | exact Below.refl _ _ | exact below_box _ | refine Below.drew ?_ | refine Below.setCell ?_ (by first | (simp; done) | (simp; omega)) _ | (refine below_step (by assumption) (by first | omega | (simp; done) | (simp; omega)) ?_) | (refine Below.alloc ?_ (by first | omega | (simp; done) | (simp; omega)) _)))⟩

end Go.Proofs.Ythepcmppibibfaa
