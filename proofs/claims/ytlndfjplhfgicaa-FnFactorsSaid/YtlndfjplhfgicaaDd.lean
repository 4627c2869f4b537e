/- Factors and divisors: what the law says (plain), and the contracts of the functions it calls. -/
import Derived.Test.YtlndfjplhfgicaaDb
namespace Go.Proofs.Ytlndfjplhfgicaa
open Go.RowKit
set_option linter.unusedVariables false
set_option linter.unusedSimpArgs false

/-! ### divisors come in pairs -/
theorem quo_back' {n x : Int} (h : n % x = 0) : n = x * (n / x) := by have := Int.emod_add_mul_ediv n x; omega
theorem quo_lt {n a b : Int} (hn : 1 ≤ n) (ha : 1 ≤ a) (hab : a < b) (h1 : n % a = 0) (h2 : n % b = 0) : n / b < n / a := by
  have e1 := quo_back' h1
  have e2 := quo_back' h2
  apply Decidable.byContradiction
  intro hh
  have hq : 1 ≤ n / a := by
    apply Decidable.byContradiction
    intro h3
    have := Int.mul_nonpos_of_nonneg_of_nonpos (show 0 ≤ a by omega) (show n / a ≤ 0 by omega)
    omega
  have m1 := Int.mul_le_mul_of_nonneg_left (show n / a ≤ n / b by omega) (show 0 ≤ b by omega)
  have m2 := Int.mul_lt_mul_of_pos_right hab (show 0 < n / a by omega)
  omega
theorem divU_turn {n : Int} (hn : 1 ≤ n) : ((divU n n.toNat).map (fun x => n / x)).reverse = divU n n.toNat := by
  have hr := divU_rise n n.toNat
  have hm := divU_mem n n.toNat
  have hmem : ∀ x, x ∈ divU n n.toNat → 1 ≤ n / x ∧ n / x ≤ n ∧ n % (n / x) = 0 ∧ n / (n / x) = x := by
    intro x hx
    obtain ⟨a, b, c⟩ := (hm x).1 hx
    have e := quo_back' c
    have hq : 1 ≤ n / x := by
      apply Decidable.byContradiction
      intro h3
      have := Int.mul_nonpos_of_nonneg_of_nonpos (show 0 ≤ x by omega) (show n / x ≤ 0 by omega)
      omega
    generalize n / x = q at *
    have h2 : q ∣ n := ⟨x, by rw [e, Int.mul_comm]⟩
    refine ⟨hq, Int.le_of_dvd (by omega) h2, Int.emod_eq_zero_of_dvd h2, ?_⟩
    rw [e, Int.mul_ediv_cancel _ (by omega)]
  have hp : ((divU n n.toNat).map (fun x => n / x)).reverse.Pairwise (· < ·) := by
    rw [List.pairwise_reverse, List.pairwise_map]
    refine hr.imp_of_mem fun {a b} ha hb hab => ?_
    obtain ⟨a1, a2, a3⟩ := (hm a).1 ha
    obtain ⟨b1, b2, b3⟩ := (hm b).1 hb
    exact quo_lt hn a1 hab a3 b3
  refine List.Perm.eq_of_pairwise (le := (· ≤ ·)) (fun a b _ _ h1 h2 => by omega) (hp.imp (fun h => by omega)) (hr.imp (fun h => by omega)) ?_
  rw [List.perm_ext_iff_of_nodup (hp.imp (fun h => by omega)) (hr.imp (fun h => by omega))]
  intro d
  rw [List.mem_reverse, List.mem_map]
  constructor
  · rintro ⟨x, hx, rfl⟩
    obtain ⟨a, b, c, e⟩ := hmem x hx
    exact (hm _).2 ⟨a, by omega, c⟩
  · intro hd
    obtain ⟨a, b, c, e⟩ := hmem d hd
    exact ⟨n / d, (hm _).2 ⟨a, by omega, c⟩, e⟩
theorem div_pair {n : Int} (hn : 1 ≤ n) {i : Nat} (hi : i < (divU n n.toNat).length) : el (divU n n.toNat) i * el (divU n n.toNat) ((divU n n.toNat).length - 1 - i) = n := by
  have ht := divU_turn hn
  have hm := divU_mem n n.toNat
  generalize divU n n.toNat = L at *
  have hj : L.length - 1 - i < L.length := by omega
  have h1 : el L i = n / el L (L.length - 1 - i) := by
    have : el ((L.map (fun x => n / x)).reverse) i = n / el L (L.length - 1 - i) := by
      have g := el_get hj
      rw [List.getElem?_eq_getElem hj] at g
      injection g with g
      simp [el, List.getElem?_reverse, hi, List.getElem?_eq_getElem hj]
    rw [ht] at this
    exact this
  have h2 := ((hm _).1 (el_mem hj)).2.2
  rw [h1, Int.mul_comm]
  exact (quo_back' h2).symm
/-! ### products of prime powers -/
theorem prodF_step {n : Int} {i : Nat} (h : i < (factL n).length) : prodF ((factL n).take (i + 1)) = prodF ((factL n).take i) * (pw (factL n) i).1 ^ (pw (factL n) i).2.toNat := by
  rw [pw_take h, prodF_append]
  simp [prodF]
theorem prodF_le {n : Int} (hn : 1 ≤ n) {i : Nat} (h : i < (factL n).length) {e : Nat} (he : e ≤ (pw (factL n) i).2.toNat) : 1 ≤ prodF ((factL n).take i) * (pw (factL n) i).1 ^ e ∧ prodF ((factL n).take i) * (pw (factL n) i).1 ^ e ≤ n := by
  obtain ⟨_, _, h1⟩ := pre_divs hn i
  obtain ⟨_, ⟨q, hq⟩, h3⟩ := pre_divs hn (i + 1)
  have hg := factL_good hn _ (pw_mem h)
  have hp := (primeB_iff.1 hg.1).1
  have hpe := pow_pos' (show 1 ≤ (pw (factL n) i).1 by omega) e
  have hm1 := Int.mul_le_mul h1 hpe (by omega) (by omega)
  rw [prodF_step h] at hq h3
  have hsplit : (pw (factL n) i).1 ^ (pw (factL n) i).2.toNat = (pw (factL n) i).1 ^ e * (pw (factL n) i).1 ^ ((pw (factL n) i).2.toNat - e) := by rw [← Int.pow_add]; congr 1; omega
  refine ⟨by omega, Int.le_of_dvd (by omega) ⟨(pw (factL n) i).1 ^ ((pw (factL n) i).2.toNat - e) * q, ?_⟩⟩
  rw [hsplit] at hq
  conv => lhs; rw [hq]
  grind
theorem fact_rise {n : Int} (hn : 1 ≤ n) {i j : Nat} (hij : i < j) (hj : j < (factL n).length) : (pw (factL n) i).1 < (pw (factL n) j).1 := by
  have h := List.pairwise_iff_getElem.1 (factL_rise hn) i j (by omega) hj hij
  simpa [pw, List.getD_eq_getElem?_getD, List.getElem?_eq_getElem hj, List.getElem?_eq_getElem (show i < (factL n).length by omega)] using h
theorem fact_bits {n : Int} (hn : 1 ≤ n) (h2 : n ≤ 1000000) {i : Nat} (h : i < (factL n).length) : (inB (pw (factL n) i).1 2 1000000 && primeB (pw (factL n) i).1) = true ∧ 2 ≤ (pw (factL n) i).1 ∧ (pw (factL n) i).1 ≤ 1000000 ∧ 1 ≤ (pw (factL n) i).2 ∧ (pw (factL n) i).2 ≤ 1000000 := by
  have hg := factL_good hn _ (pw_mem h)
  have hp := (primeB_iff.1 hg.1).1
  refine ⟨by rw [hg.1, inB_iff.2 ⟨hp, by omega⟩]; rfl, hp, by omega, hg.2.2.2.1, by omega⟩
/-! ### contracts -/
/-- The slice v reads the prime powers L. -/
def PowReads (w : World) (v : Value) (L : List (Int × Int)) : Prop := ∃ a cap, v = .slice a L.length cap ∧ L.length ≤ cap ∧ cap ≤ maxLen ∧
    (0 < L.length → ∃ g, a = some ⟨g, 0, none⟩ ∧ g < w.heap.size ∧ ∀ i, i < L.length → w.cell? ⟨g, i * 2, none⟩ = some (.int .i64 (pw L i).1) ∧ w.cell? ⟨g, i * 2 + 1, none⟩ = some (.int .i64 (pw L i).2))
theorem PowOwn.reads {w : World} {base : Nat} {v : Value} {L : List (Int × Int)} (h : PowOwn w base v L) : PowReads w v L := by
  obtain ⟨a, cap, e, h1, h2, h3⟩ := h.parts
  refine ⟨a, cap, e, h1, h2, fun hp => ?_⟩
  obtain ⟨g, e, _, h5, h6⟩ := h3 hp
  exact ⟨g, e, h5, h6⟩
theorem PowReads.step {w w' : World} {v : Value} {L : List (Int × Int)} (h : PowReads w v L) (hb : Below w.heap.size w w') : PowReads w' v L := by
  obtain ⟨a, cap, e, h1, h2, h3⟩ := h
  refine ⟨a, cap, e, h1, h2, fun hp => ?_⟩
  obtain ⟨g, e, h5, h6⟩ := h3 hp
  refine ⟨g, e, Nat.lt_of_lt_of_le h5 hb.size, fun i hi => ?_⟩
  obtain ⟨c1, c2⟩ := h6 i hi
  exact ⟨by rw [hb.cell (p := ⟨g, i * 2, none⟩) h5]; exact c1, by rw [hb.cell (p := ⟨g, i * 2 + 1, none⟩) h5]; exact c2⟩
theorem PowReads.at {w : World} {a : Option Addr} {n cap : Nat} {L : List (Int × Int)} (h : PowReads w (.slice a n cap) L) {k : Nat} (hk : k < L.length) : ∃ g, a = some ⟨g, 0, none⟩ ∧ g < w.heap.size ∧ w.cell? ⟨g, k * 2, none⟩ = some (.int .i64 (pw L k).1) ∧ w.cell? ⟨g, k * 2 + 1, none⟩ = some (.int .i64 (pw L k).2) := by
  obtain ⟨a', cap', e, _, _, h3⟩ := h
  injection e with e1 _ _
  subst e1
  obtain ⟨g, e, h5, h6⟩ := h3 (by omega)
  exact ⟨g, e, h5, h6 k hk⟩
/-- Prime powers and a code come back. -/
def RetPowC (L : List (Int × Int)) (c : Int) (w : World) (e : Ending) (w' : World) : Prop := ∃ v, e = .returned (.tuple #[v, .int .i64 c]) ∧ PowReads w' v L ∧ Below w.heap.size w w'
def facL (n : Int) : List (Int × Int) := if inB n 1 1000000 then factL n else []
def facC (n : Int) : Int := if inB n 1 1000000 then 0 else 2
theorem powReads_nil (w : World) : PowReads w (.slice none 0 0) [] := ⟨none, 0, rfl, by simp, by simp, fun h => by simp at h⟩
set_option maxHeartbeats 1000000 in
theorem FactorOf_any (n : Int) (w : World) : Calls Try.prog 20 #[.int .i64 n] w (RetPowC (facL n) (facC n) w) := by
  rcases Bool.eq_false_or_eq_true (inB n 1 1000000) with h | h
  · obtain ⟨n1, n2⟩ := inB_iff.1 h
    have H := Lib.hid h
    clear h
    go_enter Try.func20, Try.ntmps20
    go_wp2_with (first | (go_at_call 75; ((with_reducible refine (calls_bool (isFactored_any _ _) H.out).mono ?_); rintro e w' ⟨rfl, rfl⟩)) | (go_at_call 79; with_reducible refine (factors_any n _ n1 n2).mono ?_))
    rintro _ w1 ⟨v1, rfl, o1, hb1⟩
    go_wp2
    go_ret2
    exact ⟨v1, by simp [facC, H.out], by simpa [facL, H.out] using o1.reads, hb1⟩
  · have H := Lib.hid h
    clear h
    go_enter Try.func20, Try.ntmps20
    go_wp2_with (go_at_call 75; ((with_reducible refine (calls_bool (isFactored_any _ _) H.out).mono ?_); rintro e w' ⟨rfl, rfl⟩))
    go_ret2
    exact ⟨.slice none 0 0, by simp [facC, H.out], by simpa [facL, H.out] using powReads_nil _, Below.refl _ _⟩
set_option maxHeartbeats 1000000 in
theorem sFactorOf_any (n : Int) (w : World) : Calls Try.prog 21 #[.int .i64 n] w (RetPowC (facL n) (facC n) w) := by
  rcases Bool.eq_false_or_eq_true (inB n 1 1000000) with h | h
  · obtain ⟨n1, n2⟩ := inB_iff.1 h
    have H := Lib.hid h
    clear h
    go_enter Try.func21, Try.ntmps21
    go_wp2_with (first | (go_at_call 74; ((with_reducible refine (calls_bool (l01In_any _ _ _ _) H.out).mono ?_); rintro e w' ⟨rfl, rfl⟩)) | (go_at_call 80; with_reducible refine (l01Factor_any n _ n1 n2).mono ?_))
    rintro _ w1 ⟨v1, rfl, o1, hb1⟩
    go_wp2
    go_ret2
    exact ⟨v1, by simp [facC, H.out], by simpa [facL, H.out] using o1.reads, hb1⟩
  · have H := Lib.hid h
    clear h
    go_enter Try.func21, Try.ntmps21
    go_wp2_with (go_at_call 74; ((with_reducible refine (calls_bool (l01In_any _ _ _ _) H.out).mono ?_); rintro e w' ⟨rfl, rfl⟩))
    go_ret2
    exact ⟨.slice none 0 0, by simp [facC, H.out], by simpa [facL, H.out] using powReads_nil _, Below.refl _ _⟩
def valC (n p : Int) : Int := if smallB p then if inB n (-1000000000000) 1000000000000 then if n = 0 then 5 else 0 else 2 else 1
def valV (n p : Int) : Int := if valC n p = 0 then vp p n else 0
theorem val_ways (n p : Int) : (smallB p = false ∧ valC n p = 1) ∨ (smallB p = true ∧ inB n (-1000000000000) 1000000000000 = false ∧ valC n p = 2) ∨ (smallB p = true ∧ inB n (-1000000000000) 1000000000000 = true ∧ n = 0 ∧ valC n p = 5) ∨ (smallB p = true ∧ inB n (-1000000000000) 1000000000000 = true ∧ n ≠ 0 ∧ valC n p = 0) := by
  unfold valC
  by_cases h1 : smallB p = true
  · rw [if_pos h1]
    by_cases h2 : inB n (-1000000000000) 1000000000000 = true
    · rw [if_pos h2]
      by_cases h3 : n = 0
      · rw [if_pos h3]; exact .inr (.inr (.inl ⟨h1, h2, h3, rfl⟩))
      · rw [if_neg h3]; exact .inr (.inr (.inr ⟨h1, h2, h3, rfl⟩))
    · rw [if_neg h2]; exact .inr (.inl ⟨h1, by simpa using h2, rfl⟩)
  · rw [if_neg h1]; exact .inl ⟨by simpa using h1, rfl⟩
set_option maxHeartbeats 1000000 in
theorem ValuationOf_any (n p : Int) (w : World) : Calls Try.prog 24 #[.int .i64 n, .int .i64 p] w fun e w' => e = .returned (.tuple #[.int .i64 (valV n p), .int .i64 (valC n p)]) ∧ w = w' := by
  rcases val_ways n p with ⟨h1, hc⟩ | ⟨h1, h2, hc⟩ | ⟨h1, h2, h3, hc⟩ | ⟨h1, h2, h3, hc⟩
  · have H1 := Lib.hid h1
    have HC := Lib.hid hc
    clear h1 hc
    go_enter Try.func24, Try.ntmps24
    go_wp2_with (go_at_call 85; ((with_reducible refine (calls_bool (isSmallPrime_any _ _) H1.out).mono ?_); rintro e w' ⟨rfl, rfl⟩))
    go_ret2
    exact ⟨by simp [valV, HC.out], rfl⟩
  · have H1 := Lib.hid h1
    have H2 := Lib.hid h2
    have HC := Lib.hid hc
    clear h1 h2 hc
    go_enter Try.func24, Try.ntmps24
    go_wp2_with (first | (go_at_call 85; ((with_reducible refine (calls_bool (isSmallPrime_any _ _) H1.out).mono ?_); rintro e w' ⟨rfl, rfl⟩)) | (go_at_call 86; ((with_reducible refine (calls_bool (isValue_any _ _) H2.out).mono ?_); rintro e w' ⟨rfl, rfl⟩)))
    go_ret2
    exact ⟨by simp [valV, HC.out], rfl⟩
  · have H1 := Lib.hid h1
    have H2 := Lib.hid h2
    have HC := Lib.hid hc
    clear h1 h2 hc
    subst h3
    go_enter Try.func24, Try.ntmps24
    go_wp2_with (first | (go_at_call 85; ((with_reducible refine (calls_bool (isSmallPrime_any _ _) H1.out).mono ?_); rintro e w' ⟨rfl, rfl⟩)) | (go_at_call 86; ((with_reducible refine (calls_bool (isValue_any _ _) H2.out).mono ?_); rintro e w' ⟨rfl, rfl⟩)))
    go_ret2
    exact ⟨by simp [valV, HC.out], rfl⟩
  · have H1 := Lib.hid h1
    have H2 := Lib.hid h2
    have HC := Lib.hid hc
    have hb := inB_iff.1 h2
    have hp := small_bd h1
    have h3b : (n == 0) = false := by simpa using h3
    clear h1 h2 hc
    go_enter Try.func24, Try.ntmps24
    go_wp2_with (first | (go_at_call 85; ((with_reducible refine (calls_bool (isSmallPrime_any _ _) H1.out).mono ?_); rintro e w' ⟨rfl, rfl⟩)) | (go_at_call 86; ((with_reducible refine (calls_bool (isValue_any _ _) H2.out).mono ?_); rintro e w' ⟨rfl, rfl⟩)) | (go_at_call 87; ((with_reducible refine (valuation_any n p _ h3 (by omega) (by omega) hp.1 (by omega)).mono ?_); rintro e w' ⟨rfl, rfl⟩)))
    go_ret2
    exact ⟨by simp [valV, HC.out], rfl⟩
set_option maxHeartbeats 1000000 in
theorem sValuationOf_any (n p : Int) (w : World) : Calls Try.prog 25 #[.int .i64 n, .int .i64 p] w fun e w' => e = .returned (.tuple #[.int .i64 (valV n p), .int .i64 (valC n p)]) ∧ w = w' := by
  rcases val_ways n p with ⟨h1, hc⟩ | ⟨h1, h2, hc⟩ | ⟨h1, h2, h3, hc⟩ | ⟨h1, h2, h3, hc⟩
  · have H1 := Lib.hid h1
    have HC := Lib.hid hc
    clear h1 hc
    go_enter Try.func25, Try.ntmps25
    go_wp2_with (go_at_call 88; ((with_reducible refine (calls_bool (l01Small_any _ _) H1.out).mono ?_); rintro e w' ⟨rfl, rfl⟩))
    go_ret2
    exact ⟨by simp [valV, HC.out], rfl⟩
  · have H1 := Lib.hid h1
    have H2 := Lib.hid h2
    have HC := Lib.hid hc
    clear h1 h2 hc
    go_enter Try.func25, Try.ntmps25
    go_wp2_with (first | (go_at_call 88; ((with_reducible refine (calls_bool (l01Small_any _ _) H1.out).mono ?_); rintro e w' ⟨rfl, rfl⟩)) | (go_at_call 89; ((with_reducible refine (calls_bool (l01Is_any _ _) H2.out).mono ?_); rintro e w' ⟨rfl, rfl⟩)))
    go_ret2
    exact ⟨by simp [valV, HC.out], rfl⟩
  · have H1 := Lib.hid h1
    have H2 := Lib.hid h2
    have HC := Lib.hid hc
    clear h1 h2 hc
    subst h3
    go_enter Try.func25, Try.ntmps25
    go_wp2_with (first | (go_at_call 88; ((with_reducible refine (calls_bool (l01Small_any _ _) H1.out).mono ?_); rintro e w' ⟨rfl, rfl⟩)) | (go_at_call 89; ((with_reducible refine (calls_bool (l01Is_any _ _) H2.out).mono ?_); rintro e w' ⟨rfl, rfl⟩)))
    go_ret2
    exact ⟨by simp [valV, HC.out], rfl⟩
  · have H1 := Lib.hid h1
    have H2 := Lib.hid h2
    have HC := Lib.hid hc
    have hb := inB_iff.1 h2
    have hp := small_bd h1
    have h3b : (n == 0) = false := by simpa using h3
    clear h1 h2 hc
    go_enter Try.func25, Try.ntmps25
    go_wp2_with (first | (go_at_call 88; ((with_reducible refine (calls_bool (l01Small_any _ _) H1.out).mono ?_); rintro e w' ⟨rfl, rfl⟩)) | (go_at_call 89; ((with_reducible refine (calls_bool (l01Is_any _ _) H2.out).mono ?_); rintro e w' ⟨rfl, rfl⟩)) | (go_at_call 90; ((with_reducible refine (l01Valuation_any n p _ h3 (by omega) (by omega) hp.1 (by omega)).mono ?_); rintro e w' ⟨rfl, rfl⟩)))
    go_ret2
    exact ⟨by simp [valV, HC.out], rfl⟩

end Go.Proofs.Ytlndfjplhfgicaa
