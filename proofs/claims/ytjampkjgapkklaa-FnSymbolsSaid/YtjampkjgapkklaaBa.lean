/- Contracts: bad primes, tables of symbols. -/
import Derived.Test.YtjampkjgapkklaaR
import Derived.Test.YtjampkjgapkklaaPa
namespace Go.Proofs.Ytjampkjgapkklaa
open Go.RowKit
set_option linter.unusedVariables false
set_option linter.unusedSimpArgs false

/-- The exponent of p in n, and the rest. -/
def vz (p n : Int) : Int := vp p n
def uq (p n : Int) : Int := n / p ^ vp p n
theorem l16Parts_z (n p : Int) (w : World) (hn : n ≠ 0) (hn1 : -1000000000000000000 ≤ n) (hn2 : n ≤ 1000000000000000000) (hp : 2 ≤ p) (hp2 : p ≤ 1000000000000000000) :
    Calls Try.prog 67 #[.int .i64 n, .int .i64 p] w fun e w' => e = .returned (.tuple #[.int .i64 (vz p n), .int .i64 (uq p n)]) ∧ w = w' := l16Parts_any n p w hn hn1 hn2 hp hp2
theorem uq_facts {p n : Int} (hp : 2 ≤ p) (hn : n ≠ 0) (h : -1000000000000 ≤ n ∧ n ≤ 1000000000000) : uq p n ≠ 0 ∧ -1000000000000 ≤ uq p n ∧ uq p n ≤ 1000000000000 := by
  have h1 := vp_pow_le hp hn
  have h2 := quo_le (n := n) h1.1
  have h3 := (vp_spec hp hn).2.1
  unfold uq
  refine ⟨fun e => ?_, by omega, by omega⟩
  rw [e] at h3
  simp at h3
theorem vz_pos {p n : Int} (hp : 2 ≤ p) (hn : n ≠ 0) : 0 < vz p n ↔ n % p = 0 := by
  unfold vz
  constructor
  · intro h
    apply Decidable.byContradiction
    intro hd
    rw [vp_zero hp hd] at h
    simp at h
  · intro h
    have := vp_pos hp hn h
    omega
theorem uq_same {p n : Int} (hp : 2 ≤ p) (hd : n % p ≠ 0) : uq p n = n := by
  unfold uq; rw [vp_zero hp hd]; simp
/-- What the prime p does to the two numbers and the list. -/
def badStep (p : Int) (s : Int × Int × List Int) : Int × Int × List Int :=
  if primeB p then (uq p s.1, uq p s.2.1, if p = 2 ∨ s.1 % p = 0 ∨ s.2.1 % p = 0 then s.2.2 ++ [p] else s.2.2) else s
def badS (a b : Int) : Nat → Int × Int × List Int
  | 0 => (a, b, [])
  | k + 1 => badStep ((k : Int) + 2) (badS a b k)
def badFin (s : Int × Int × List Int) : Bool := decide (s.1.natAbs = 1) && decide (s.2.1.natAbs = 1)
def badL (a b : Int) : List Int := if nzB a then if nzB b then if badFin (badS a b 96) then (badS a b 96).2.2 else [] else [] else []
def badC (a b : Int) : Int := if nzB a then if nzB b then if badFin (badS a b 96) then 0 else 3 else 2 else 2
structure BadInv (a b : Int) (k : Nat) (A B : Int) (L : List Int) : Prop where
  eq : badS a b k = (A, B, L)
  a0 : A ≠ 0
  a1 : -1000000000000 ≤ A ∧ A ≤ 1000000000000
  b0 : B ≠ 0
  b1 : -1000000000000 ≤ B ∧ B ≤ 1000000000000
  len : L.length ≤ k
theorem badInv_start {a b : Int} (ha : nzB a = true) (hb : nzB b = true) : BadInv a b 0 a b [] := by
  have h1 := nz_iff.1 ha
  have h2 := nz_iff.1 hb
  exact ⟨rfl, h1.2, h1.1, h2.2, h2.1, Nat.le_refl _⟩
theorem badInv_no {a b : Int} {k : Nat} {A B : Int} {L : List Int} (h : BadInv a b k A B L) (hp : primeB ((k : Int) + 2) = false) : BadInv a b (k + 1) A B L :=
  ⟨by rw [badS, h.eq, badStep, if_neg (by rw [hp]; simp)], h.a0, h.a1, h.b0, h.b1, by have := h.len; omega⟩
theorem badInv_good {a b : Int} {k : Nat} {A B : Int} {L : List Int} (h : BadInv a b k A B L) (hp : primeB ((k : Int) + 2) = true) (hn : ¬ ((k : Int) + 2 = 2 ∨ A % ((k : Int) + 2) = 0 ∨ B % ((k : Int) + 2) = 0)) : BadInv a b (k + 1) A B L := by
  refine ⟨?_, h.a0, h.a1, h.b0, h.b1, by have := h.len; omega⟩
  rw [badS, h.eq, badStep, if_pos hp]
  simp only
  rw [if_neg hn, uq_same (by omega) (fun e => hn (.inr (.inl e))), uq_same (by omega) (fun e => hn (.inr (.inr e)))]
theorem badInv_bad {a b : Int} {k : Nat} {A B : Int} {L : List Int} (h : BadInv a b k A B L) (hp : primeB ((k : Int) + 2) = true) (hn : (k : Int) + 2 = 2 ∨ A % ((k : Int) + 2) = 0 ∨ B % ((k : Int) + 2) = 0) : BadInv a b (k + 1) (uq ((k : Int) + 2) A) (uq ((k : Int) + 2) B) (L ++ [(k : Int) + 2]) := by
  have h1 := uq_facts (p := (k : Int) + 2) (by omega) h.a0 h.a1
  have h2 := uq_facts (p := (k : Int) + 2) (by omega) h.b0 h.b1
  refine ⟨?_, h1.1, h1.2, h2.1, h2.2, by have := h.len; simp; omega⟩
  rw [badS, h.eq, badStep, if_pos hp]
  simp only
  rw [if_pos hn]
/-- The three tests on a prime. -/
theorem badWays (P A B : Int) : ((P = 2 ∨ A % P = 0 ∨ B % P = 0) ∧ ((P == 2) = true ∨ ((P == 2) = false ∧ (A.tmod P == 0) = true) ∨ ((P == 2) = false ∧ (A.tmod P == 0) = false ∧ (B.tmod P == 0) = true))) ∨
    (¬ (P = 2 ∨ A % P = 0 ∨ B % P = 0) ∧ (P == 2) = false ∧ (A.tmod P == 0) = false ∧ (B.tmod P == 0) = false) := by
  have ha := tmod_zero A P
  have hb := tmod_zero B P
  by_cases h1 : P = 2
  · exact .inl ⟨.inl h1, .inl (by simpa using h1)⟩
  · have h1' : (P == 2) = false := by simpa using h1
    by_cases h2 : A % P = 0
    · exact .inl ⟨.inr (.inl h2), .inr (.inl ⟨h1', by simpa using ha.2 h2⟩)⟩
    · have h2' : (A.tmod P == 0) = false := by simpa using fun e => h2 (ha.1 e)
      by_cases h3 : B % P = 0
      · exact .inl ⟨.inr (.inr h3), .inr (.inr ⟨h1', h2', by simpa using hb.2 h3⟩)⟩
      · exact .inr ⟨fun h => by rcases h with h | h | h <;> contradiction, h1', h2', by simpa using fun e => h3 (hb.1 e)⟩
theorem badL_of {a b : Int} (ha : nzB a = true) (hb : nzB b = true) {A B : Int} {L : List Int} (h : BadInv a b 96 A B L) : badL a b = (if badFin (A, B, L) then L else []) ∧ badC a b = if badFin (A, B, L) then 0 else 3 := by
  unfold badL badC
  rw [if_pos ha, if_pos hb, if_pos ha, if_pos hb, h.eq]
  exact ⟨rfl, rfl⟩
theorem badNo {a b : Int} (h : ¬ (nzB a = true ∧ nzB b = true)) : badL a b = [] ∧ badC a b = 2 := by
  unfold badL badC
  by_cases ha : nzB a = true
  · have hb : ¬ nzB b = true := fun hb => h ⟨ha, hb⟩
    rw [if_pos ha, if_neg hb, if_pos ha, if_neg hb]; exact ⟨rfl, rfl⟩
  · rw [if_neg ha, if_neg ha]; exact ⟨rfl, rfl⟩
theorem fin_ways (A B : Int) (L : List Int) : (badFin (A, B, L) = true ∧ (((A.natAbs : Int) != 1) = false ∧ ((B.natAbs : Int) != 1) = false)) ∨ (badFin (A, B, L) = false ∧ (((A.natAbs : Int) != 1) = true ∨ (((A.natAbs : Int) != 1) = false ∧ ((B.natAbs : Int) != 1) = true))) := by
  unfold badFin
  by_cases h1 : A.natAbs = 1
  · have h1' : ((A.natAbs : Int) != 1) = false := by rw [h1]; rfl
    by_cases h2 : B.natAbs = 1
    · exact .inl ⟨by simp [h1, h2], h1', by rw [h2]; rfl⟩
    · exact .inr ⟨by simp [h2], .inr ⟨h1', by simp; omega⟩⟩
  · exact .inr ⟨by simp [h1], .inl (by simp; omega)⟩
theorem quo_tdiv {p n : Int} (hp : 2 ≤ p) (hn : n ≠ 0) : n.tdiv (p ^ vp p n) = uq p n := (vp_spec hp hn).2.2

set_option maxHeartbeats 4000000 in
theorem badPrimes_any (a b : Int) (w : World) :
    Calls Try.prog 78 #[.int .i64 a, .int .i64 b] w (RetIC (badL a b) (badC a b) w) := by
  by_cases hz : nzB a = true ∧ nzB b = true
  case neg =>
    obtain ⟨n1, n2⟩ := badNo hz
    have N1 := Lib.hid n1
    have N2 := Lib.hid n2
    clear n1 n2
    rcases Bool.eq_false_or_eq_true (nzB a) with ha | ha
    · have hb : nzB b = false := by rw [Bool.eq_false_iff]; exact fun h => hz ⟨ha, h⟩
      have HA := Lib.hid ha
      have HB := Lib.hid hb
      clear ha hb hz
      go_enter Try.func78, Try.ntmps78
      go_wp2_with (first | (go_at_call 71; ((with_reducible refine (calls_bool (isNonzero_any _ _) HA.out).mono ?_); rintro e w' ⟨rfl, rfl⟩)) | (go_at_call 71; ((with_reducible refine (calls_bool (isNonzero_any _ _) HB.out).mono ?_); rintro e w' ⟨rfl, rfl⟩)))
      go_ret2
      exact ⟨.slice none 0 0, by simp [N2.out], by rw [N1.out]; exact Own.nil, Below.refl _ _⟩
    · have HA := Lib.hid ha
      clear ha hz
      go_enter Try.func78, Try.ntmps78
      go_wp2_with (go_at_call 71; ((with_reducible refine (calls_bool (isNonzero_any _ _) HA.out).mono ?_); rintro e w' ⟨rfl, rfl⟩))
      go_ret2
      exact ⟨.slice none 0 0, by simp [N2.out], by rw [N1.out]; exact Own.nil, Below.refl _ _⟩
  obtain ⟨ha, hb⟩ := hz
  have HA := Lib.hid ha
  have HB := Lib.hid hb
  clear ha hb
  go_enter Try.func78, Try.ntmps78
  go_wp2_with (first | (go_at_call 71; ((with_reducible refine (calls_bool (isNonzero_any _ _) HA.out).mono ?_); rintro e w' ⟨rfl, rfl⟩)) | (go_at_call 71; ((with_reducible refine (calls_bool (isNonzero_any _ _) HB.out).mono ?_); rintro e w' ⟨rfl, rfl⟩)))
  go_loopw [0, 1, 6, 7] (fun x y l c wr => ∃ (k : Nat) (P A B : Int) (L : List Int), x = .int .i64 A ∧ y = .int .i64 B ∧ c = .int .i64 P ∧ Hid (P = (k : Int) + 2) ∧ 2 ≤ P ∧ P ≤ 98 ∧ Hid (BadInv a b k A B L) ∧ Own wr w.heap.size l L ∧ Below w.heap.size w wr) (fun _ _ _ c _ => (98 - intOf c).toNat)
  case atStart => exact ⟨0, 2, _, _, _, rfl, rfl, rfl, Lib.hid rfl, by omega, by omega, Lib.hid (badInv_start HA.out HB.out), Own.nil, Below.refl _ _⟩
  case round =>
    obtain ⟨k, P, A, B, L, rfl, rfl, rfl, HP, hp2, hp98, HI, hown, hbel⟩ := hrel
    have HO := Lib.hid hown
    have HW := Lib.hid hbel
    clear hown hbel
    have hA0 := HI.out.a0
    have hB0 := HI.out.b0
    obtain ⟨hA1, hA2⟩ := HI.out.a1
    obtain ⟨hB1, hB2⟩ := HI.out.b1
    by_cases hlt : P ≤ 97
    · have hL : L.length + 1 ≤ 1099511627776 := by have := HI.out.len; have := HP.out; omega
      rcases Bool.eq_false_or_eq_true (primeB P) with hpr | hpr
      · have HPR := Lib.hid (show (inB P 2 1000000 && primeB P) = true by rw [hpr, inB_iff.2 (by omega)]; rfl)
        have HPK := Lib.hid (show primeB ((k : Int) + 2) = true by rw [← HP.out]; exact hpr)
        clear hpr
        rcases badWays P A B with ⟨hb, hw⟩ | ⟨hb, t1, t2, t3⟩
        · obtain ⟨⟨q1, q2⟩, _, q5, q6⟩ := quo_facts (p := P) hp2 hA0 (by omega)
          obtain ⟨⟨r1, r2⟩, _, r5, r6⟩ := quo_facts (p := P) hp2 hB0 (by omega)
          obtain ⟨u0, u1, u2⟩ := uq_facts hp2 hA0 ⟨hA1, hA2⟩
          obtain ⟨v0, v1, v2⟩ := uq_facts hp2 hB0 ⟨hB1, hB2⟩
          have q7 : -1000000000000 ≤ A.tdiv (P ^ vp P A) ∧ A.tdiv (P ^ vp P A) ≤ 1000000000000 := by rw [quo_tdiv hp2 hA0]; exact ⟨u1, u2⟩
          have r7 : -1000000000000 ≤ B.tdiv (P ^ vp P B) ∧ B.tdiv (P ^ vp P B) ≤ 1000000000000 := by rw [quo_tdiv hp2 hB0]; exact ⟨v1, v2⟩
          have QA := Lib.hid (quo_tdiv hp2 hA0)
          have QB := Lib.hid (quo_tdiv hp2 hB0)
          have hPA : ¬ P ^ vp P A = 0 := by omega
          have hPB : ¬ P ^ vp P B = 0 := by omega
          have HN := Lib.hid (badInv_bad HI.out HPK.out (by rw [← HP.out]; exact hb))
          rw [← HP.out] at HN
          clear hb q5 r5 u0 v0
          rcases hw with t1 | ⟨t1, t2⟩ | ⟨t1, t2, t3⟩
          all_goals
            go_wp2_with (first | (go_at_call 102; ((with_reducible refine (calls_bool (IsPrime_any _ _) HPR.out).mono ?_); rintro e w' ⟨rfl, rfl⟩)) | (at_builtin; refine append_one _ rfl _ _ rfl rfl HO.out hL HW.out.size rfl ?_))
            intro vv w1 hown1 hbel1
            have HO1 := Lib.hid hown1
            have HW1 := Lib.hid (HW.out.trans hbel1)
            clear hown1 hbel1
            go_wp2_with (first | (go_at_call 98; ((with_reducible refine (valuation_any A P _ hA0 (by omega) (by omega) hp2 (by omega)).mono ?_); rintro e w' ⟨rfl, rfl⟩)) | (go_at_call 98; ((with_reducible refine (valuation_any B P _ hB0 (by omega) (by omega) hp2 (by omega)).mono ?_); rintro e w' ⟨rfl, rfl⟩)) | (go_at_call 58; ((with_reducible refine (power_any P (vp P A : Int) _ (by omega) (by rw [Int.toNat_natCast]; omega) (by rw [Int.toNat_natCast]; omega)).mono ?_); rintro e w' ⟨rfl, rfl⟩)) | (go_at_call 58; ((with_reducible refine (power_any P (vp P B : Int) _ (by omega) (by rw [Int.toNat_natCast]; omega) (by rw [Int.toNat_natCast]; omega)).mono ?_); rintro e w' ⟨rfl, rfl⟩)) | (refine wp_region_wext (by kernel_rfl) (by kernel_rfl) ?_; (repeat (go_big_quiet_step (first | (go_at_call 98; with_reducible refine calls_wext_same (valuation_any A P _ hA0 (by omega) (by omega) hp2 (by omega))) | (go_at_call 98; with_reducible refine calls_wext_same (valuation_any B P _ hB0 (by omega) (by omega) hp2 (by omega))) | (go_at_call 58; with_reducible refine calls_wext_same (power_any P (vp P A : Int) _ (by omega) (by rw [Int.toNat_natCast]; omega) (by rw [Int.toNat_natCast]; omega))) | (go_at_call 58; with_reducible refine calls_wext_same (power_any P (vp P B : Int) _ (by omega) (by rw [Int.toNat_natCast]; omega) (by rw [Int.toNat_natCast]; omega)))))); refine wpQuiet_nil ?_; intro w1_hbq hbq; replace hbq := below_of_wext hbq; obtain ⟨chbq, fhbq, shbq⟩ := bfacts2 hbq; (try simp at shbq)))
            go_roundw
            case rel => exact ⟨k + 1, P + 1, _, _, _, vint QA.out, vint QB.out, rfl, Lib.hid (by rw [HP.out]; omega), by omega, by omega, HN, HO1.out.step (by assumption), HW1.out.trans ((by assumption : Below w1.heap.size w1 _).mono HW1.out.size)⟩
            case measure => simp [intOf]; omega
        · have HN := Lib.hid (badInv_good HI.out HPK.out (by rw [← HP.out]; exact hb))
          clear hb
          go_wp2_with (go_at_call 102; ((with_reducible refine (calls_bool (IsPrime_any _ _) HPR.out).mono ?_); rintro e w' ⟨rfl, rfl⟩))
          go_roundw
          case rel => exact ⟨k + 1, P + 1, _, _, _, rfl, rfl, rfl, Lib.hid (by rw [HP.out]; omega), by omega, by omega, HN, HO.out, HW.out⟩
          case measure => simp [intOf]; omega
      · have HPR := Lib.hid (show (inB P 2 1000000 && primeB P) = false by rw [hpr]; simp)
        have HN := Lib.hid (badInv_no HI.out (by rw [← HP.out]; exact hpr))
        clear hpr
        go_wp2_with (go_at_call 102; ((with_reducible refine (calls_bool (IsPrime_any _ _) HPR.out).mono ?_); rintro e w' ⟨rfl, rfl⟩))
        go_roundw
        case rel => exact ⟨k + 1, P + 1, _, _, _, rfl, rfl, rfl, Lib.hid (by rw [HP.out]; omega), by omega, by omega, HN, HO.out, HW.out⟩
        case measure => simp [intOf]; omega
    · obtain ⟨n1, n2⟩ := badL_of HA.out HB.out (show BadInv a b 96 A B L by have := HI.out; rw [show k = 96 by have := HP.out; omega] at this; exact this)
      rcases fin_ways A B L with ⟨hf, t1, t2⟩ | ⟨hf, hw⟩
      · have N1 := Lib.hid n1
        have N2 := Lib.hid n2
        have HF := Lib.hid hf
        clear n1 n2 hf
        go_wp2_with (first | (go_at_call 110; ((with_reducible refine (abs_any A _ (by omega) (by omega)).mono ?_); rintro e w' ⟨rfl, rfl⟩)) | (go_at_call 110; ((with_reducible refine (abs_any B _ (by omega) (by omega)).mono ?_); rintro e w' ⟨rfl, rfl⟩)))
        go_ret2
        exact ⟨u6, by simp [N2.out, HF.out], by rw [N1.out, if_pos HF.out]; exact HO.out, HW.out⟩
      · have N1 := Lib.hid n1
        have N2 := Lib.hid n2
        have HF := Lib.hid hf
        clear n1 n2 hf
        rcases hw with t1 | ⟨t1, t2⟩
        all_goals
          go_wp2_with (first | (go_at_call 110; ((with_reducible refine (abs_any A _ (by omega) (by omega)).mono ?_); rintro e w' ⟨rfl, rfl⟩)) | (go_at_call 110; ((with_reducible refine (abs_any B _ (by omega) (by omega)).mono ?_); rintro e w' ⟨rfl, rfl⟩)))
          go_ret2
          exact ⟨.slice none 0 0, by simp [N2.out, HF.out], by rw [N1.out, if_neg (by rw [HF.out]; simp)]; exact Own.nil, HW.out⟩

/-- The tests of the reference on a prime. -/
theorem badWaysS {P A B : Int} (hp : 2 ≤ P) (ha : A ≠ 0) (hb : B ≠ 0) : ((P = 2 ∨ A % P = 0 ∨ B % P = 0) ∧ ((P == 2) = true ∨ ((P == 2) = false ∧ 0 < vz P A) ∨ ((P == 2) = false ∧ ¬ 0 < vz P A ∧ 0 < vz P B))) ∨
    (¬ (P = 2 ∨ A % P = 0 ∨ B % P = 0) ∧ (P == 2) = false ∧ ¬ 0 < vz P A ∧ ¬ 0 < vz P B) := by
  have ka := vz_pos hp ha
  have kb := vz_pos hp hb
  by_cases h1 : P = 2
  · exact .inl ⟨.inl h1, .inl (by simpa using h1)⟩
  · have h1' : (P == 2) = false := by simpa using h1
    by_cases h2 : A % P = 0
    · exact .inl ⟨.inr (.inl h2), .inr (.inl ⟨h1', ka.2 h2⟩)⟩
    · by_cases h3 : B % P = 0
      · exact .inl ⟨.inr (.inr h3), .inr (.inr ⟨h1', fun h => h2 (ka.1 h), kb.2 h3⟩)⟩
      · exact .inr ⟨fun h => by rcases h with h | h | h <;> contradiction, h1', fun h => h2 (ka.1 h), fun h => h3 (kb.1 h)⟩

set_option maxHeartbeats 4000000 in
theorem l16Bad_any (a b : Int) (w : World) :
    Calls Try.prog 77 #[.int .i64 a, .int .i64 b] w (RetIC (badL a b) (badC a b) w) := by
  by_cases hz : nzB a = true ∧ nzB b = true
  case neg =>
    obtain ⟨n1, n2⟩ := badNo hz
    have N1 := Lib.hid n1
    have N2 := Lib.hid n2
    have HT := Lib.hid (show twoCode a b = 2 by
      unfold twoCode
      by_cases ha : nzB a = true
      · have hb : ¬ nzB b = true := fun hb => hz ⟨ha, hb⟩
        rw [if_pos ha, if_neg hb]
      · rw [if_neg ha])
    clear n1 n2 hz
    go_enter Try.func77, Try.ntmps77
    go_wp2_with (go_at_call 49; ((with_reducible refine (calls_int (l16Two_any _ _ _) HT.out).mono ?_); rintro e w' ⟨rfl, rfl⟩))
    go_ret2
    exact ⟨.slice none 0 0, by simp [N2.out], by rw [N1.out]; exact Own.nil, Below.refl _ _⟩
  obtain ⟨ha, hb⟩ := hz
  have HA := Lib.hid ha
  have HB := Lib.hid hb
  have HT := Lib.hid (show twoCode a b = 0 by unfold twoCode; rw [if_pos ha, if_pos hb])
  clear ha hb
  go_enter Try.func77, Try.ntmps77
  go_wp2_with (go_at_call 49; ((with_reducible refine (calls_int (l16Two_any _ _ _) HT.out).mono ?_); rintro e w' ⟨rfl, rfl⟩))
  go_loopw [0, 1, 7, 8] (fun x y l c wr => ∃ (k : Nat) (P A B : Int) (L : List Int), x = .int .i64 A ∧ y = .int .i64 B ∧ c = .int .i64 P ∧ Hid (P = (k : Int) + 2) ∧ 2 ≤ P ∧ P ≤ 98 ∧ Hid (BadInv a b k A B L) ∧ Own wr w.heap.size l L ∧ Below w.heap.size w wr) (fun _ _ _ c _ => (98 - intOf c).toNat)
  case atStart => exact ⟨0, 2, _, _, _, rfl, rfl, rfl, Lib.hid rfl, by omega, by omega, Lib.hid (badInv_start HA.out HB.out), Own.empty (Nat.le_refl _), below_box _⟩
  case round =>
    obtain ⟨k, P, A, B, L, rfl, rfl, rfl, HP, hp2, hp98, HI, hown, hbel⟩ := hrel
    have HO := Lib.hid hown
    have HW := Lib.hid hbel
    clear hown hbel
    have hA0 := HI.out.a0
    have hB0 := HI.out.b0
    obtain ⟨hA1, hA2⟩ := HI.out.a1
    obtain ⟨hB1, hB2⟩ := HI.out.b1
    by_cases hlt : P ≤ 97
    · have hL : L.length + 1 ≤ 1099511627776 := by have := HI.out.len; have := HP.out; omega
      rcases Bool.eq_false_or_eq_true (primeB P) with hpr | hpr
      · have HPR := Lib.hid hpr
        have HPK := Lib.hid (show primeB ((k : Int) + 2) = true by rw [← HP.out]; exact hpr)
        clear hpr
        rcases badWaysS hp2 hA0 hB0 with ⟨hb, hw⟩ | ⟨hb, t1, t2, t3⟩
        · have HN := Lib.hid (badInv_bad HI.out HPK.out (by rw [← HP.out]; exact hb))
          rw [← HP.out] at HN
          clear hb
          rcases hw with t1 | ⟨t1, t2⟩ | ⟨t1, t2, t3⟩
          all_goals
            go_wp2_with (first | (go_at_call 100; ((with_reducible refine (calls_bool (l01Prime_any _ _ (by omega)) HPR.out).mono ?_); rintro e w' ⟨rfl, rfl⟩)) | (go_at_call 67; ((with_reducible refine (l16Parts_z A P _ hA0 (by omega) (by omega) hp2 (by omega)).mono ?_); rintro e w' ⟨rfl, rfl⟩)) | (go_at_call 67; ((with_reducible refine (l16Parts_z B P _ hB0 (by omega) (by omega) hp2 (by omega)).mono ?_); rintro e w' ⟨rfl, rfl⟩)) | (at_builtin; refine append_one _ rfl _ _ rfl rfl HO.out hL HW.out.size rfl ?_))
            intro vv w1 hown1 hbel1
            have HO1 := Lib.hid hown1
            have HW1 := Lib.hid (HW.out.trans hbel1)
            clear hown1 hbel1
            go_wp2
            go_roundw
            case rel => exact ⟨k + 1, P + 1, _, _, _, rfl, rfl, rfl, Lib.hid (by rw [HP.out]; omega), by omega, by omega, HN, HO1.out, HW1.out⟩
            case measure => simp [intOf]; omega
        · have HN := Lib.hid (badInv_good HI.out HPK.out (by rw [← HP.out]; exact hb))
          have U1 := Lib.hid (uq_same (n := A) hp2 (fun e => hb (.inr (.inl e))))
          have U2 := Lib.hid (uq_same (n := B) hp2 (fun e => hb (.inr (.inr e))))
          clear hb
          go_wp2_with (first | (go_at_call 100; ((with_reducible refine (calls_bool (l01Prime_any _ _ (by omega)) HPR.out).mono ?_); rintro e w' ⟨rfl, rfl⟩)) | (go_at_call 67; ((with_reducible refine (l16Parts_z A P _ hA0 (by omega) (by omega) hp2 (by omega)).mono ?_); rintro e w' ⟨rfl, rfl⟩)) | (go_at_call 67; ((with_reducible refine (l16Parts_z B P _ hB0 (by omega) (by omega) hp2 (by omega)).mono ?_); rintro e w' ⟨rfl, rfl⟩)))
          go_roundw
          case rel => exact ⟨k + 1, P + 1, _, _, _, vint U1.out, vint U2.out, rfl, Lib.hid (by rw [HP.out]; omega), by omega, by omega, HN, HO.out, HW.out⟩
          case measure => simp [intOf]; omega
      · have HPR := Lib.hid hpr
        have HN := Lib.hid (badInv_no HI.out (by rw [← HP.out]; exact hpr))
        clear hpr
        go_wp2_with (go_at_call 100; ((with_reducible refine (calls_bool (l01Prime_any _ _ (by omega)) HPR.out).mono ?_); rintro e w' ⟨rfl, rfl⟩))
        go_roundw
        case rel => exact ⟨k + 1, P + 1, _, _, _, rfl, rfl, rfl, Lib.hid (by rw [HP.out]; omega), by omega, by omega, HN, HO.out, HW.out⟩
        case measure => simp [intOf]; omega
    · obtain ⟨n1, n2⟩ := badL_of HA.out HB.out (show BadInv a b 96 A B L by have := HI.out; rw [show k = 96 by have := HP.out; omega] at this; exact this)
      rcases fin_ways A B L with ⟨hf, t1, t2⟩ | ⟨hf, hw⟩
      · have N1 := Lib.hid n1
        have N2 := Lib.hid n2
        have HF := Lib.hid hf
        clear n1 n2 hf
        go_wp2_with (first | (go_at_call 109; ((with_reducible refine (l01Abs_any A _ (by omega) (by omega)).mono ?_); rintro e w' ⟨rfl, rfl⟩)) | (go_at_call 109; ((with_reducible refine (l01Abs_any B _ (by omega) (by omega)).mono ?_); rintro e w' ⟨rfl, rfl⟩)))
        go_ret2
        exact ⟨u7, by simp [N2.out, HF.out], by rw [N1.out, if_pos HF.out]; exact HO.out, HW.out⟩
      · have N1 := Lib.hid n1
        have N2 := Lib.hid n2
        have HF := Lib.hid hf
        clear n1 n2 hf
        rcases hw with t1 | ⟨t1, t2⟩
        all_goals
          go_wp2_with (first | (go_at_call 109; ((with_reducible refine (l01Abs_any A _ (by omega) (by omega)).mono ?_); rintro e w' ⟨rfl, rfl⟩)) | (go_at_call 109; ((with_reducible refine (l01Abs_any B _ (by omega) (by omega)).mono ?_); rintro e w' ⟨rfl, rfl⟩)))
          go_ret2
          exact ⟨.slice none 0 0, by simp [N2.out, HF.out], by rw [N1.out, if_neg (by rw [HF.out]; simp)]; exact Own.nil, HW.out⟩

end Go.Proofs.Ytjampkjgapkklaa
