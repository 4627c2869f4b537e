/- Contracts: orders by a prime, primitive roots. -/
import Derived.Test.YtjampkjgapkklaaFb
import Derived.Test.YtjampkjgapkklaaD
import Derived.LoopTactic
namespace Go.Proofs.Ytjampkjgapkklaa
open Go.RowKit
set_option linter.unusedVariables false
set_option linter.unusedSimpArgs false

/-! ### the orders, as either side has them -/
def ordT (p a q x : Int) : Int := if a ^ (x / q).toNat % p = 1 then x / q else x
def ordJ (p a q x : Int) : Nat → Int
  | 0 => x
  | j + 1 => ordT p a q (ordJ p a q x j)
def ordI (p a : Int) (L : List (Int × Int)) : Nat → Int
  | 0 => p - 1
  | i + 1 => ordJ p a (pw L i).1 (ordI p a L i) (pw L i).2.toNat
def ordV (p a : Int) : Int := ordI p a (factL (p - 1)) (factL (p - 1)).length
def ordW (p a q : Int) : Nat → Int → Int
  | 0, n => n
  | f + 1, n => if n % q = 0 then (if a ^ (n / q).toNat % p = 1 then ordW p a q f (n / q) else n) else n
def ordSI (p a : Int) (L : List (Int × Int)) : Nat → Int
  | 0 => p - 1
  | i + 1 => ordW p a (pw L i).1 100 (ordSI p a L i)
def ordL (p : Int) : List (Int × Int) := factL (p - 1) ++ [(p, 0)]
def ordS (p a : Int) : Int := ordSI p a (ordL p) (ordL p).length
theorem div_range {x q b : Int} (hx : 0 ≤ x ∧ x ≤ b) (hq : 2 ≤ q) : 0 ≤ x / q ∧ x / q ≤ x := ⟨Int.ediv_nonneg hx.1 (by omega), Int.ediv_le_self _ hx.1⟩
theorem ordT_bd {p a q x b : Int} (hx : 0 ≤ x ∧ x ≤ b) (hq : 2 ≤ q) : 0 ≤ ordT p a q x ∧ ordT p a q x ≤ b := by
  have := div_range hx hq
  unfold ordT
  split <;> omega
theorem ordJ_bd {p a q x b : Int} (hx : 0 ≤ x ∧ x ≤ b) (hq : 2 ≤ q) : ∀ j, 0 ≤ ordJ p a q x j ∧ ordJ p a q x j ≤ b
  | 0 => hx
  | j + 1 => ordT_bd (ordJ_bd hx hq j) hq
theorem fact_two {n : Int} (hn : 1 ≤ n) {i : Nat} (hi : i < (factL n).length) : 2 ≤ (pw (factL n) i).1 ∧ (pw (factL n) i).1 ≤ n ∧ 1 ≤ (pw (factL n) i).2 ∧ (pw (factL n) i).2 ≤ n := by
  obtain ⟨h1, h2, h3, h4, h5⟩ := factL_good hn _ (pw_mem hi)
  exact ⟨(primeB_iff.1 h1).1, h3, h4, h5⟩
theorem ordI_bd {p a : Int} (hp : 2 ≤ p) : ∀ i, i ≤ (factL (p - 1)).length → 0 ≤ ordI p a (factL (p - 1)) i ∧ ordI p a (factL (p - 1)) i ≤ p - 1
  | 0, _ => by simp only [ordI]; omega
  | i + 1, h => ordJ_bd (ordI_bd hp i (by omega)) (fact_two (by omega) (by omega)).1 _
theorem ordL_at {p : Int} (hp : 2 ≤ p) {i : Nat} (hi : i < (ordL p).length) : 2 ≤ (pw (ordL p) i).1 ∧ (pw (ordL p) i).1 ≤ p := by
  have hm := pw_mem hi
  rcases List.mem_append.1 hm with h | h
  · obtain ⟨h1, h2, h3, h4, h5⟩ := factL_good (show 1 ≤ p - 1 by omega) _ h
    exact ⟨(primeB_iff.1 h1).1, by omega⟩
  · simp at h; rw [h]; exact ⟨hp, Int.le_refl _⟩
theorem div_one {n q : Int} (hn : 1 ≤ n) (hq : 2 ≤ q) (h : n % q = 0) : 1 ≤ n / q ∧ n / q < n := by
  have h1 := Int.mul_ediv_add_emod n q
  refine ⟨?_, Int.ediv_lt_self_of_pos_of_ne_one (by omega) (by omega)⟩
  apply Decidable.byContradiction
  intro hh
  have : q * (n / q) ≤ q * 0 := Int.mul_le_mul_of_nonneg_left (by omega) (by omega)
  omega
theorem ordW_bd {p a q b : Int} (hq : 2 ≤ q) : ∀ f n, 1 ≤ n → n ≤ b → 1 ≤ ordW p a q f n ∧ ordW p a q f n ≤ b
  | 0, n, h1, h2 => ⟨h1, h2⟩
  | f + 1, n, h1, h2 => by
    rw [ordW]
    split
    · split
      · have := div_one h1 hq (by assumption)
        exact ordW_bd hq f _ this.1 (by omega)
      · exact ⟨h1, h2⟩
    · exact ⟨h1, h2⟩
theorem ordSI_bd {p a : Int} (hp : 2 ≤ p) : ∀ i, i ≤ (ordL p).length → 1 ≤ ordSI p a (ordL p) i ∧ ordSI p a (ordL p) i ≤ p - 1
  | 0, _ => by simp only [ordSI]; omega
  | i + 1, h => by
    have ih := ordSI_bd (a := a) hp i (by omega)
    exact ordW_bd (ordL_at hp (by omega)).1 _ _ ih.1 ih.2
/-- What the reference's inner loop keeps. -/
structure WInv (p a q n0 : Int) (f : Nat) (n : Int) : Prop where
  eq : ordW p a q f n = ordW p a q 100 n0
  le : n ≤ f
  one : 1 ≤ n
theorem wInv_yes {p a q n0 : Int} {f : Nat} {n : Int} (hq : 2 ≤ q) (h : WInv p a q n0 f n) (h1 : n % q = 0) (h2 : a ^ (n / q).toNat % p = 1) : WInv p a q n0 (f - 1) (n / q) ∧ n / q < n := by
  obtain ⟨g, rfl⟩ : ∃ g, f = g + 1 := ⟨f - 1, by have := h.le; have := h.one; omega⟩
  have hd := div_one h.one hq h1
  have e := h.eq
  rw [ordW, if_pos h1, if_pos h2] at e
  exact ⟨⟨e, by have := h.le; simp; omega, hd.1⟩, hd.2⟩
theorem wInv_no {p a q n0 : Int} {f : Nat} {n : Int} (h : WInv p a q n0 f n) (hn : ¬ (n % q = 0 ∧ a ^ (n / q).toNat % p = 1)) : ordW p a q 100 n0 = n := by
  obtain ⟨g, rfl⟩ : ∃ g, f = g + 1 := ⟨f - 1, by have := h.le; have := h.one; omega⟩
  have e := h.eq
  rw [ordW] at e
  split at e
  · split at e
    · exact absurd ⟨by assumption, by assumption⟩ hn
    · exact e.symm
  · exact e.symm

/-- The least primitive root, by search. -/
def rootF (p : Int) : Nat → Int → Int
  | 0, a => a
  | f + 1, a => if ordV p a = p - 1 then a else rootF p f (a + 1)
def rootV (p : Int) : Int := rootF p 10 1
theorem root_all : ∀ P : Fin 98, smallB (P.val : Int) = true → 1 ≤ rootV P.val ∧ rootV P.val ≤ 10 ∧ ordV P.val (rootV P.val) = P.val - 1 ∧ ordS P.val (rootV P.val) = P.val - 1 ∧ ∀ A : Fin 10, 1 ≤ A.val → (A.val : Int) < rootV P.val → ordV P.val A.val ≠ P.val - 1 ∧ ordS P.val A.val ≠ P.val - 1 := by decide +kernel
theorem root_facts {p : Int} (hs : smallB p = true) (hp : 2 ≤ p ∧ p ≤ 97) : 1 ≤ rootV p ∧ rootV p ≤ 10 ∧ ordV p (rootV p) = p - 1 ∧ ordS p (rootV p) = p - 1 := by
  have h := root_all ⟨p.toNat, by omega⟩
  have e : ((p.toNat : Nat) : Int) = p := by omega
  simp only [e] at h
  obtain ⟨h1, h2, h3, h4, _⟩ := h hs
  exact ⟨h1, h2, h3, h4⟩
theorem root_less {p a : Int} (hs : smallB p = true) (hp : 2 ≤ p ∧ p ≤ 97) (ha : 1 ≤ a) (hl : a < rootV p) : ordV p a ≠ p - 1 ∧ ordS p a ≠ p - 1 := by
  have h := root_all ⟨p.toNat, by omega⟩
  have e : ((p.toNat : Nat) : Int) = p := by omega
  simp only [e] at h
  obtain ⟨h1, h2, h3, h4, h5⟩ := h hs
  have h6 := h5 ⟨a.toNat, by omega⟩ (by show 1 ≤ a.toNat; omega)
  have e2 : ((a.toNat : Nat) : Int) = a := by omega
  simp only [e2] at h6
  exact h6 hl

theorem fact_all : ∀ P : Fin 98, 2 ≤ P.val → (factL ((P.val : Int) - 1)).length ≤ 10 := by decide +kernel
theorem fact_len {p : Int} (hp : 2 ≤ p ∧ p ≤ 97) : (factL (p - 1)).length ≤ 10 := by
  have h := fact_all ⟨p.toNat, by omega⟩ (by show 2 ≤ p.toNat; omega)
  have e : ((p.toNat : Nat) : Int) = p := by omega
  simp only [e] at h
  exact h

/-! ### the walks -/
theorem box_cells' {w w1 : World} {x y : Value} {t : TypeId} (hb : Below (w.alloc (.cells #[x, y] t)).heap.size (w.alloc (.cells #[x, y] t)) w1) : w1.cell? ⟨w.heap.size, 0, none⟩ = some x ∧ w1.cell? ⟨w.heap.size, 1, none⟩ = some y := by
  constructor
  · rw [hb.cell (p := ⟨w.heap.size, 0, none⟩) (by simp)]; simp
  · rw [hb.cell (p := ⟨w.heap.size, 1, none⟩) (by simp)]; simp
theorem ring_one {p : Int} (hs : smallB p = true) (hp : 2 ≤ p ∧ p ≤ 97) : ringB p 1 = true := by
  have h : ∀ P : Fin 98, smallB (P.val : Int) = true → ringB P.val 1 = true := by decide +kernel
  have e : ((p.toNat : Nat) : Int) = p := by omega
  have h1 := h ⟨p.toNat, by omega⟩
  simp only [e] at h1
  exact h1 hs
theorem units_one (p : Int) (hp : 2 ≤ p) : unitsV p 1 = p - 1 := by
  unfold unitsV
  rw [show (1 : Int).toNat = 1 from rfl, Int.pow_succ, Int.pow_zero, Int.one_mul, Int.ediv_self (by omega)]
theorem units_calls (p : Int) (w : World) (hr : ringB p 1 = true) (hp : 2 ≤ p) :
    Calls Try.prog 125 #[.agg #[.int .i64 p, .int .i64 1]] w fun e w' => e = .returned (.int .i64 (p - 1)) ∧ Below w.heap.size w w' := calls_int (units_any p 1 w hr) (units_one p hp)
theorem sunits_calls (p : Int) (w : World) (hr : ringB p 1 = true) (hp : 2 ≤ p) :
    Calls Try.prog 107 #[.agg #[.int .i64 p, .int .i64 1]] w fun e w' => e = .returned (.int .i64 (p - 1)) ∧ Below w.heap.size w w' := calls_int (l02Units_any p 1 w hr) (units_one p hp)
theorem pow_one' (p : Int) : p ^ (1 : Int).toNat = p := by rw [show (1 : Int).toNat = 1 from rfl, Int.pow_succ, Int.pow_zero, Int.one_mul]
theorem modulus_calls (p : Int) (w : World) (hr : ringB p 1 = true) :
    Calls Try.prog 117 #[.agg #[.int .i64 p, .int .i64 1]] w fun e w' => e = .returned (.int .i64 p) ∧ Below w.heap.size w w' := calls_int (modulus_any p 1 w hr) (pow_one' p)
theorem smodulus_calls (p : Int) (w : World) (hr : ringB p 1 = true) :
    Calls Try.prog 106 #[.int .i64 p, .int .i64 1] w fun e w' => e = .returned (.int .i64 p) ∧ w = w' := calls_int (l02Modulus_ring p 1 w hr) (pow_one' p)

theorem small_mul {x y : Int} (hx : 0 ≤ x ∧ x ≤ 100) (hy : 0 ≤ y ∧ y ≤ 100) : 0 ≤ x * y ∧ x * y ≤ 10000 := by
  have := Int.mul_nonneg hx.1 hy.1
  have := Int.mul_le_mul hx.2 hy.2 hy.1 (by omega)
  omega
set_option maxHeartbeats 4000000 in
theorem order_one (p a : Int) (w : World) (hr : ringB p 1 = true) (hp : 2 ≤ p ∧ p ≤ 97) (ha : 1 ≤ a ∧ a ≤ 10) :
    Calls Try.prog 108 #[.agg #[.int .i64 p, .int .i64 1], .int .i64 a] w fun e w' => e = .returned (.int .i64 (ordV p a)) ∧ Below w.heap.size w w' := by
  have HR := Lib.hid hr
  clear hr
  go_enter Try.func108, Try.ntmps108
  go_wp2_with (go_at_call 125; with_reducible refine (units_calls p _ HR.out hp.1).mono ?_)
  rintro _ w1 ⟨rfl, hb1⟩
  obtain ⟨c1, c2⟩ := box_cells' hb1
  go_wp2_with (go_at_call 125; with_reducible refine (units_calls p _ HR.out hp.1).mono ?_)
  rintro _ w2 ⟨rfl, hb2⟩
  have HB2 := Lib.hid (hb1.trans (hb2.mono hb1.size))
  clear hb1 hb2 c1 c2
  go_wp2_with (go_at_call 64; with_reducible refine (factors_any (p - 1) _ (by omega) (by omega)).mono ?_)
  rintro _ w3 ⟨v1, rfl, hown, hb3⟩
  obtain ⟨p1, p2, rfl, p3, p4, hq⟩ := hown.parts
  have HB3 := Lib.hid (HB2.out.trans (hb3.mono HB2.out.size))
  have HP := Lib.hid hq
  clear hown hb3 hq HB2
  have hmax : (factL (p - 1)).length ≤ 9223372036854775807 := by unfold maxLen at p4; omega
  have hs3 := HB3.out.size
  simp at hs3
  go_wp2
  go_loopw [5, 14] (fun e c wr => ∃ i : Nat, c = .int .i64 (i : Int) ∧ i ≤ (factL (p - 1)).length ∧ e = .int .i64 (ordI p a (factL (p - 1)) i) ∧ Below w3.heap.size w3 wr) (fun _ c _ => (factL (p - 1)).length - (intOf c).toNat)
  case atStart => exact ⟨0, rfl, by omega, rfl, Below.refl _ _⟩
  case round =>
    obtain ⟨i, rfl, hi, rfl, hbel⟩ := hrel
    have HW := Lib.hid hbel
    clear hbel
    by_cases hlt : i < (factL (p - 1)).length
    · obtain ⟨g, rfl, hg, hgw, hc⟩ := HP.out (by omega)
      obtain ⟨d1, d2⟩ := hc i hlt
      rw [← HW.out.cell (p := ⟨g, i * 2, none⟩) hgw] at d1
      rw [← HW.out.cell (p := ⟨g, i * 2 + 1, none⟩) hgw] at d2
      obtain ⟨o1, o2, o3, o4⟩ := fact_two (show 1 ≤ p - 1 by omega) hlt
      clear hc
      have hx := ordI_bd (a := a) hp.1 i hi
      obtain ⟨x, hxe⟩ : ∃ x, ordI p a (factL (p - 1)) i = x := ⟨_, rfl⟩
      rw [hxe] at hx ⊢
      have HX := Lib.hid hxe
      clear hxe
      obtain ⟨q, hqe⟩ : ∃ q, (pw (factL (p - 1)) i).1 = q := ⟨_, rfl⟩
      obtain ⟨k, hke⟩ : ∃ k, (pw (factL (p - 1)) i).2 = k := ⟨_, rfl⟩
      rw [hqe] at d1 o1 o2
      rw [hke] at d2 o3 o4
      have HQ := Lib.hid hqe
      have HK := Lib.hid hke
      clear hqe hke
      have hswr := HW.out.size
      have e1 : wr.cell? ⟨w.heap.size, 0, none⟩ = some (.int .i64 p) := by
        rw [HW.out.cell (p := ⟨w.heap.size, 0, none⟩) (by show w.heap.size < _; omega), HB3.out.cell (p := ⟨w.heap.size, 0, none⟩) (by simp)]; simp
      have e2 : wr.cell? ⟨w.heap.size, 1, none⟩ = some (.int .i64 1) := by
        rw [HW.out.cell (p := ⟨w.heap.size, 1, none⟩) (by show w.heap.size < _; omega), HB3.out.cell (p := ⟨w.heap.size, 1, none⟩) (by simp)]; simp
      go_wp2
      go_loopw [5, 20] (fun e c wr2 => ∃ j : Nat, c = .int .i64 (j : Int) ∧ (j : Int) ≤ k ∧ e = .int .i64 (ordJ p a q x j) ∧ Below wr.heap.size wr wr2 ∧ (wr.heap.size < wr2.heap.size ∧ wr2.cell? ⟨wr.heap.size, 0, none⟩ = some (.int .i64 q) ∧ wr2.cell? ⟨wr.heap.size, 1, none⟩ = some (.int .i64 k))) (fun _ c _ => (k - intOf c).toNat)
      case atStart => exact ⟨0, rfl, by omega, rfl, (by repeat (first | assumption | exact Below.refl _ _ | exact below_box _ | refine Below.drew ?_ | refine Below.setCell ?_ (by first | (simp; done) | (simp; omega)) _ | (refine below_step (by assumption) (by first | omega | (simp; done) | (simp; omega)) ?_) | (refine Below.alloc ?_ (by first | omega | (simp; done) | (simp; omega)) _))), by simp, by simp, by simp⟩
      case round =>
        clear d1 d2
        obtain ⟨j, rfl, hj, rfl, hb, hsz, x1, x2⟩ := hrel
        have e3 := (hb.cell (p := ⟨w.heap.size, 0, none⟩) (by show w.heap.size < _; omega)).trans e1
        have e4 := (hb.cell (p := ⟨w.heap.size, 1, none⟩) (by show w.heap.size < _; omega)).trans e2
        have HI := Lib.hid hb
        clear hb
        have hy := ordJ_bd (p := p) (a := a) hx o1 j
        obtain ⟨y, hye⟩ : ∃ y, ordJ p a q x j = y := ⟨_, rfl⟩
        rw [hye] at hy ⊢
        have HY := Lib.hid hye
        clear hye
        have hyq := div_range hy o1
        by_cases hlt2 : (j : Int) < k
        · by_cases h1 : a ^ (y / q).toNat % p = 1
          · have HT := Lib.hid (show ordJ p a q x (j + 1) = y / q by rw [ordJ, ordT, HY.out, if_pos h1])
            have h1' : (a ^ (y / q).toNat % p == 1) = true := by simpa using h1
            clear h1
            go_wp2_with (first | (go_at_call 117; ((with_reducible refine (modulus_calls p _ HR.out).mono ?_); rintro e w1_hb0 ⟨rfl, hb0⟩; obtain ⟨chb0, fhb0, shb0⟩ := bfacts2 hb0; (try simp at shb0))) | (go_at_call 99; ((with_reducible refine (powerMod_any _ _ _ _ ⟨by omega, by omega⟩ (by omega) (by omega) (by omega) (by omega)).mono ?_); rintro e w' ⟨rfl, rfl⟩)) | (refine wp_region_wext (by kernel_rfl) (by kernel_rfl) ?_; (repeat (go_big_quiet_step (first | (go_at_call 117; with_reducible refine calls_wext (modulus_calls p _ HR.out)) | (go_at_call 99; with_reducible refine calls_wext_same (powerMod_any _ _ _ _ ⟨by omega, by omega⟩ (by omega) (by omega) (by omega) (by omega)))))); refine wpQuiet_nil ?_; intro w1_hbq hbq; replace hbq := below_of_wext hbq; obtain ⟨chbq, fhbq, shbq⟩ := bfacts2 hbq; (try simp at shbq)))
            go_roundw
            case rel => exact ⟨j + 1, by go_num, by omega, vint HT.out.symm, HI.out.trans (hbq.mono HI.out.size), by omega, (hbq.cell (p := ⟨_, 0, none⟩) hsz).trans x1, (hbq.cell (p := ⟨_, 1, none⟩) hsz).trans x2⟩
            case measure => simp [intOf]; omega
          · have HT := Lib.hid (show ordJ p a q x (j + 1) = y by rw [ordJ, ordT, HY.out, if_neg h1])
            have h1' : (a ^ (y / q).toNat % p == 1) = false := by simpa using h1
            clear h1
            go_wp2_with (first | (go_at_call 117; ((with_reducible refine (modulus_calls p _ HR.out).mono ?_); rintro e w1_hb0 ⟨rfl, hb0⟩; obtain ⟨chb0, fhb0, shb0⟩ := bfacts2 hb0; (try simp at shb0))) | (go_at_call 99; ((with_reducible refine (powerMod_any _ _ _ _ ⟨by omega, by omega⟩ (by omega) (by omega) (by omega) (by omega)).mono ?_); rintro e w' ⟨rfl, rfl⟩)) | (refine wp_region_wext (by kernel_rfl) (by kernel_rfl) ?_; (repeat (go_big_quiet_step (first | (go_at_call 117; with_reducible refine calls_wext (modulus_calls p _ HR.out)) | (go_at_call 99; with_reducible refine calls_wext_same (powerMod_any _ _ _ _ ⟨by omega, by omega⟩ (by omega) (by omega) (by omega) (by omega)))))); refine wpQuiet_nil ?_; intro w1_hbq hbq; replace hbq := below_of_wext hbq; obtain ⟨chbq, fhbq, shbq⟩ := bfacts2 hbq; (try simp at shbq)))
            go_roundw
            case rel => exact ⟨j + 1, by go_num, by omega, vint HT.out.symm, HI.out.trans (hbq.mono HI.out.size), by omega, (hbq.cell (p := ⟨_, 0, none⟩) hsz).trans x1, (hbq.cell (p := ⟨_, 1, none⟩) hsz).trans x2⟩
            case measure => simp [intOf]; omega
        · have HJ := Lib.hid (show ordI p a (factL (p - 1)) (i + 1) = y by rw [ordI, HQ.out, HX.out, HK.out, show k.toNat = j by omega]; exact HY.out)
          go_wp2
          go_roundw
          case rel => exact ⟨i + 1, by go_num, by omega, vint HJ.out.symm, HW.out.trans (HI.out.mono HW.out.size)⟩
          case measure => simp [intOf]; omega
    · have HE := Lib.hid (show ordV p a = ordI p a (factL (p - 1)) i by rw [ordV, show (factL (p - 1)).length = i by omega])
      go_wp2
      go_ret
      exact ⟨ret_int HE.out.symm, (below_box _).trans ((HB3.out.trans (HW.out.mono HB3.out.size)).mono (by simp))⟩

set_option maxHeartbeats 4000000 in
theorem l02Order_one (p a : Int) (w : World) (hr : ringB p 1 = true) (hp : 2 ≤ p ∧ p ≤ 97) (ha : 1 ≤ a ∧ a ≤ 10) :
    Calls Try.prog 75 #[.agg #[.int .i64 p, .int .i64 1], .int .i64 a] w fun e w' => e = .returned (.int .i64 (ordS p a)) ∧ Below w.heap.size w w' := by
  have HR := Lib.hid hr
  obtain ⟨i0, hi, hz0, hz1, hz2⟩ := info_parts infoPow
  clear hr
  go_enter Try.func75, Try.ntmps75
  go_wp2_with (go_at_call 106; ((with_reducible refine (smodulus_calls p _ HR.out).mono ?_); rintro e w' ⟨rfl, rfl⟩))
  go_wp2_with (go_at_call 107; with_reducible refine (sunits_calls p _ HR.out hp.1).mono ?_)
  rintro _ w1 ⟨rfl, hb1⟩
  obtain ⟨c1, c2⟩ := box_cells' hb1
  have HB1 := Lib.hid hb1
  have HB1W := Lib.hid hb1
  clear hb1
  go_wp2_with (go_at_call 60; with_reducible refine (l01Factor_any (p - 1) _ (by omega) (by omega)).mono ?_)
  rintro _ w2 ⟨v1, rfl, hown, hb2⟩
  have HB2 := Lib.hid (HB1.out.trans (hb2.mono HB1.out.size))
  have e1 : w2.cell? ⟨w.heap.size, 0, none⟩ = some (.int .i64 p) := by rw [HB2.out.cell (p := ⟨w.heap.size, 0, none⟩) (by simp)]; simp
  have hs2 := HB2.out.size
  simp at hs2
  have hs12 := hb2.size
  have HB12 := Lib.hid hb2
  clear hb2 HB1 c1 c2
  have hlen := fact_len hp
  go_wp2_with (at_builtin; refine wpList_append_own _ rfl _ _ 63 rfl w1.heap.size 66 i0 (.agg #[.int .i64 0, .int .i64 0]) 2 16 Try.underlying63 hi hz0 hz1 hz2 rfl (by decide) _ _ _ rfl (World.ownsRow.alloc (show w2.ownsRow w1.heap.size 66 2 _ (factL (p - 1)).length (powCells (factL (p - 1))) from hown) _) ⟨w2.heap.size, 0, none⟩ 1 1 [.int .i64 (p), .int .i64 0] rfl rfl (cell_two_new _ _ _ _) (two_cells _ _) (by unfold maxLen; omega) (by omega) (by simp; omega) ?_)
  intro v3 w3 hown3 hgrow _
  obtain ⟨hown4, hbel4⟩ := pow_rel HB12.out hown hown3 hgrow
  obtain ⟨p1, p2, rfl, p3, p4, hq⟩ := (show PowOwn w3 w1.heap.size v3 (ordL p) from hown4).parts
  have HP := Lib.hid hq
  have HB3 := Lib.hid (show Below w1.heap.size w1 w3 from hbel4)
  have HBW := Lib.hid (show Below w.heap.size w w3 from (below_box _).trans ((HB1W.out.trans (hbel4.mono HB1W.out.size)).mono (by simp)))
  have hl2 : (ordL p).length ≤ 11 := by simp [ordL]; omega
  clear hown hown3 hgrow hown4 hbel4 hq HB12
  go_wp2
  go_loop [6, 8] (fun e c => ∃ i : Nat, c = .int .i64 (i : Int) ∧ i ≤ (ordL p).length ∧ e = .int .i64 (ordSI p a (ordL p) i)) (fun _ c => (ordL p).length - (intOf c).toNat)
  case atStart => exact ⟨0, rfl, by omega, rfl⟩
  case round =>
    obtain ⟨i, rfl, hi, rfl⟩ := hrel
    by_cases hlt : i < (ordL p).length
    · obtain ⟨g, rfl, hg, hgw, hc⟩ := HP.out (by omega)
      obtain ⟨d1, d2⟩ := hc i hlt
      obtain ⟨o1, o2⟩ := ordL_at hp.1 hlt
      obtain ⟨x1, x2⟩ := ordSI_bd (a := a) hp.1 i hi
      obtain ⟨x, hxe⟩ : ∃ x, ordSI p a (ordL p) i = x := ⟨_, rfl⟩
      obtain ⟨q, hqe⟩ : ∃ q, (pw (ordL p) i).1 = q := ⟨_, rfl⟩
      rw [hxe] at x1 x2 ⊢
      rw [hqe] at d1 o1 o2
      have HX := Lib.hid hxe
      have HQ := Lib.hid hqe
      clear hxe hqe hc d2
      go_wp2
      go_loop [6] (fun e => ∃ (n : Int) (f : Nat), e = .int .i64 n ∧ n ≤ 96 ∧ Hid (WInv p a q x f n)) (fun e => (intOf e).toNat)
      case atStart => exact ⟨x, 100, rfl, by omega, Lib.hid ⟨rfl, by omega, x1⟩⟩
      case round =>
        obtain ⟨n, f, rfl, hn, HI⟩ := hrel
        have hn1 := HI.out.one
        by_cases h1 : n % q = 0
        · have h1' : (n % q == 0) = true := by simpa using h1
          obtain ⟨v1, v2⟩ := div_one hn1 o1 h1
          by_cases h2 : a ^ (n / q).toNat % p = 1
          · have h2' : (a ^ (n / q).toNat % p == 1) = true := by simpa using h2
            obtain ⟨y1, y2⟩ := wInv_yes o1 HI.out h1 h2
            have HY := Lib.hid y1
            clear h1 h2 y1
            go_wp2_with (go_at_call 61; ((with_reducible refine (l02Power_any _ _ _ _ ⟨by omega, by omega⟩ (by omega) (by omega) (by omega) (by omega)).mono ?_); rintro e w' ⟨rfl, rfl⟩))
            go_round
            case rel => exact ⟨n / q, f - 1, rfl, by omega, HY⟩
            case measure => simp [intOf]; omega
          · have h2' : (a ^ (n / q).toNat % p == 1) = false := by simpa using h2
            have HE := Lib.hid (show ordSI p a (ordL p) (i + 1) = n by rw [ordSI, HX.out, HQ.out]; exact wInv_no HI.out (fun hh => h2 hh.2))
            clear h1 h2
            go_wp2_with (go_at_call 61; ((with_reducible refine (l02Power_any _ _ _ _ ⟨by omega, by omega⟩ (by omega) (by omega) (by omega) (by omega)).mono ?_); rintro e w' ⟨rfl, rfl⟩))
            go_round
            case rel => exact ⟨i + 1, by go_num, by omega, vint HE.out.symm⟩
            case measure => simp [intOf]; omega
        · have h1' : (n % q == 0) = false := by simpa using h1
          have HE := Lib.hid (show ordSI p a (ordL p) (i + 1) = n by rw [ordSI, HX.out, HQ.out]; exact wInv_no HI.out (fun hh => h1 hh.1))
          clear h1
          go_wp2
          go_round
          case rel => exact ⟨i + 1, by go_num, by omega, vint HE.out.symm⟩
          case measure => simp [intOf]; omega
    · have HE := Lib.hid (show ordS p a = ordSI p a (ordL p) i by rw [ordS, show (ordL p).length = i by omega])
      go_wp2
      go_ret
      exact ⟨ret_int HE.out.symm, HBW.out⟩

/-! ### primitive roots -/
set_option maxHeartbeats 1000000 in
theorem primitiveRoot_any (p : Int) (w : World) (hs : smallB p = true) :
    Calls Try.prog 76 #[.int .i64 p] w fun e w' => e = .returned (.int .i64 (rootV p)) ∧ Below w.heap.size w w' := by
  have hp := small_bd hs
  have HS := Lib.hid hs
  obtain ⟨r1, r2, r3, r4⟩ := root_facts hs hp
  have HR := Lib.hid (ring_one hs hp)
  have H3 := Lib.hid r3
  clear hs r3 r4
  go_enter Try.func76, Try.ntmps76
  go_wp2
  go_loopw [3] (fun c wr => ∃ A : Int, c = .int .i64 A ∧ 1 ≤ A ∧ A ≤ rootV p ∧ Below w.heap.size w wr) (fun c _ => (11 - intOf c).toNat)
  case atStart => exact ⟨1, rfl, by omega, r1, Below.refl _ _⟩
  case round =>
    obtain ⟨A, rfl, hA, hA2, hbel⟩ := hrel
    have HW := Lib.hid hbel
    clear hbel
    by_cases he : A = rootV p
    · subst he
      have HV := Lib.hid H3.out
      go_wp2_with (go_at_call 108; with_reducible refine (calls_int (order_one p (rootV p) _ HR.out hp ⟨by omega, by omega⟩) H3.out).mono ?_)
      rintro _ w1 ⟨rfl, hb1⟩
      go_wp2
      go_ret
      exact ⟨rfl, HW.out.trans (hb1.mono HW.out.size)⟩
    · have hne : (ordV p A != p - 1) = true := by simpa using (root_less HS.out hp hA (by omega)).1
      go_wp2_with (go_at_call 108; with_reducible refine (order_one p A _ HR.out hp ⟨by omega, by omega⟩).mono ?_)
      rintro _ w1 ⟨rfl, hb1⟩
      go_wp2
      go_roundw
      case rel => exact ⟨A + 1, rfl, by omega, by omega, HW.out.trans (hb1.mono HW.out.size)⟩
      case measure => simp [intOf]; omega
def proV (p : Int) : Int := if smallB p then rootV p else 0
def proC (p : Int) : Int := if smallB p then 0 else 1
set_option maxHeartbeats 1000000 in
theorem PrimitiveRoot_any (p : Int) (w : World) :
    Calls Try.prog 26 #[.int .i64 p] w fun e w' => e = .returned (.tuple #[.int .i64 (proV p), .int .i64 (proC p)]) ∧ Below w.heap.size w w' := by
  rcases Bool.eq_false_or_eq_true (smallB p) with hs | hs
  · have HS := Lib.hid hs
    clear hs
    go_enter Try.func26, Try.ntmps26
    go_wp2_with (first | (go_at_call 70; ((with_reducible refine (calls_bool (isSmallPrime_any _ _) HS.out).mono ?_); rintro e w' ⟨rfl, rfl⟩)) | (go_at_call 76; with_reducible refine (primitiveRoot_any p _ HS.out).mono ?_))
    rintro _ w1 ⟨rfl, hb1⟩
    go_wp2
    go_ret2
    exact ⟨by simp [proV, proC, HS.out], hb1⟩
  · have HS := Lib.hid hs
    clear hs
    go_enter Try.func26, Try.ntmps26
    go_wp2_with (go_at_call 70; ((with_reducible refine (calls_bool (isSmallPrime_any _ _) HS.out).mono ?_); rintro e w' ⟨rfl, rfl⟩))
    go_ret2
    exact ⟨by simp [proV, proC, HS.out], Below.refl _ _⟩
set_option maxHeartbeats 1000000 in
theorem sPrimitiveRoot_any (p : Int) (w : World) :
    Calls Try.prog 25 #[.int .i64 p] w fun e w' => e = .returned (.tuple #[.int .i64 (proV p), .int .i64 (proC p)]) ∧ Below w.heap.size w w' := by
  rcases Bool.eq_false_or_eq_true (smallB p) with hs | hs
  · have hp := small_bd hs
    have HS := Lib.hid hs
    obtain ⟨r1, r2, r3, r4⟩ := root_facts hs hp
    have HR := Lib.hid (ring_one hs hp)
    have H4 := Lib.hid r4
    clear hs r3 r4
    go_enter Try.func25, Try.ntmps25
    go_wp2_with (go_at_call 66; ((with_reducible refine (calls_bool (l01Small_any _ _) HS.out).mono ?_); rintro e w' ⟨rfl, rfl⟩))
    go_loopw [4] (fun c wr => ∃ A : Int, c = .int .i64 A ∧ 1 ≤ A ∧ A ≤ rootV p ∧ Below w.heap.size w wr) (fun c _ => (11 - intOf c).toNat)
    case atStart => exact ⟨1, rfl, by omega, r1, Below.refl _ _⟩
    case round =>
      obtain ⟨A, rfl, hA, hA2, hbel⟩ := hrel
      have HW := Lib.hid hbel
      clear hbel
      by_cases he : A = rootV p
      · subst he
        go_wp2_with (go_at_call 75; with_reducible refine (calls_int (l02Order_one p (rootV p) _ HR.out hp ⟨by omega, by omega⟩) H4.out).mono ?_)
        rintro _ w1 ⟨rfl, hb1⟩
        go_wp2
        go_ret2
        exact ⟨by simp [proV, proC, HS.out], HW.out.trans (hb1.mono HW.out.size)⟩
      · have hne : (ordS p A != p - 1) = true := by simpa using (root_less HS.out hp hA (by omega)).2
        go_wp2_with (go_at_call 75; with_reducible refine (l02Order_one p A _ HR.out hp ⟨by omega, by omega⟩).mono ?_)
        rintro _ w1 ⟨rfl, hb1⟩
        go_wp2
        go_roundw
        case rel => exact ⟨A + 1, rfl, by omega, by omega, HW.out.trans (hb1.mono HW.out.size)⟩
        case measure => simp [intOf]; omega
  · have HS := Lib.hid hs
    clear hs
    go_enter Try.func25, Try.ntmps25
    go_wp2_with (go_at_call 66; ((with_reducible refine (calls_bool (l01Small_any _ _) HS.out).mono ?_); rintro e w' ⟨rfl, rfl⟩))
    go_ret2
    exact ⟨by simp [proV, proC, HS.out], Below.refl _ _⟩

end Go.Proofs.Ytjampkjgapkklaa
