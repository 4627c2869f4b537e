/- Contracts: polynomials in a ring. -/
import Derived.Test.YthepcmppibibfaaOg
import Derived.Test.YthepcmppibibfaaC
namespace Go.Proofs.Ythepcmppibibfaa
open Go.RowKit
set_option linter.unusedVariables false
set_option linter.unusedSimpArgs false

/-- A polynomial in a ring. -/
def inrB (p n : Int) (f : List Int) : Bool := ringB p n && decide (f.length ≤ 9) && f.all (fun c => inB c 0 (p ^ n.toNat - 1)) && lastB f
theorem box_cells {w w1 : World} {x y : Value} {t : TypeId} (hb : Below (w.alloc (.cells #[x, y] t)).heap.size (w.alloc (.cells #[x, y] t)) w1) : w1.cell? ⟨w.heap.size, 0, none⟩ = some x ∧ w1.cell? ⟨w.heap.size, 1, none⟩ = some y := by
  constructor
  · rw [hb.cell (p := ⟨w.heap.size, 0, none⟩) (by simp)]; simp
  · rw [hb.cell (p := ⟨w.heap.size, 1, none⟩) (by simp)]; simp
set_option maxHeartbeats 1000000 in
theorem isInr1_any {B : Nat} {p n : Int} (x : Int) {w : World} (hB : B < w.heap.size) (h0 : w.cell? ⟨B, 0, none⟩ = some (.int .i64 p)) (h1 : w.cell? ⟨B, 1, none⟩ = some (.int .i64 n)) (hr : ringB p n = true) :
    Calls Try.prog 53 #[.int .i64 x, .pointer (some ⟨B, 0, none⟩)] w fun e w' => e = .returned (.bool (!inB x 0 (p ^ n.toNat - 1))) ∧ Below w.heap.size w w' := by
  have HR := Lib.hid hr
  clear hr
  go_enter Try.func53, Try.ntmps53
  go_wp2_with (go_at_call 54; ((with_reducible refine (has_any _ _ _ _ HR.out).mono ?_); rintro e w1_hb ⟨rfl, hb⟩; obtain ⟨chb, fhb, shb⟩ := bfacts hb; (try have l0hb : w.heap.size < w1_hb.heap.size := (by first | (simp at shb; omega) | omega)); (try have l1hb : w.heap.size + 1 < w1_hb.heap.size := (by first | (simp at shb; omega) | omega))))
  go_ret
  exact ⟨rfl, hb⟩

set_option maxHeartbeats 1000000 in
theorem IsInRing_any {p n : Int} {v : Value} {f : List Int} {w : World} (h : Reads w v f) (hn : n ≤ 9223372036854775807) (hn' : -9223372036854775808 ≤ n) :
    Calls Try.prog 18 #[.agg #[.int .i64 p, .int .i64 n], v] w fun e w' => e = .returned (.bool (inrB p n f)) ∧ Below w.heap.size w w' := by
  obtain ⟨a, cap, rfl, h1, h2⟩ := reads_nil_eq h
  obtain ⟨m, hm⟩ : ∃ m, f.length = m := ⟨_, rfl⟩
  rw [hm] at h h1 ⊢
  have HM := Lib.hid hm
  have HR := Lib.hid (h.step (below_box (.cells #[.int .i64 p, .int .i64 n] 26)))
  have hl := h.1
  rw [hm] at hl
  clear h h2 hm
  rcases Bool.eq_false_or_eq_true (ringB p n) with hs | hs
  · have HS := Lib.hid hs
    clear hs
    by_cases h9 : m ≤ 9
    · rcases Bool.eq_false_or_eq_true (f.all (fun c => inB c 0 (p ^ n.toNat - 1))) with ha | ha
      · have HA := Lib.hid (show f.any (fun x => !inB x 0 (p ^ n.toNat - 1)) = false by rw [any_not, ha]; rfl)
        have HP := Lib.hid (show inrB p n f = lastB f by rw [inrB, ha, HS.out, decide_eq_true (HM.out.symm ▸ h9)]; simp)
        clear ha
        rcases lastB_ways HM.out with ⟨h0, hl⟩ | ⟨h0, hb0, hl⟩
        · have HL := Lib.hid hl
          subst h0
          clear hl
          go_enter Try.func18, Try.ntmps18
          go_wp2_with (go_at_call 51; with_reducible refine (calls_bool (IsRing_any _ _ _ hn hn') HS.out).mono ?_)
          rintro _ w1 ⟨rfl, hb1⟩
          obtain ⟨c1, c2⟩ := box_cells hb1
          go_wp2_with (go_at_call 52; with_reducible refine (calls_bool (ContainsFunc_inr _ (HR.out.step hb1) (fun x W hb => isInr1_any x (Nat.lt_of_lt_of_le (Nat.lt_of_lt_of_le (by simp) hb1.size) hb.size) ((hb.cell (Nat.lt_of_lt_of_le (by simp) hb1.size)).trans c1) ((hb.cell (Nat.lt_of_lt_of_le (by simp) hb1.size)).trans c2) HS.out)) HA.out).mono ?_)
          rintro _ w2 ⟨rfl, hb2⟩
          go_wp2
          go_ret
          exact ⟨ret_bool (by first | rw [HP.out, HL.out] | (rw [HP.out]; simp [HL.out])), (below_box _).trans ((hb1.trans (hb2.mono hb1.size)).mono (by simp))⟩
        · obtain ⟨b, o, rfl, hc⟩ := HR.out.at (k := m - 1) (by rw [HM.out]; omega)
          have hlt := HR.out.lt (by rw [HM.out]; omega)
          have HL := Lib.hid hl
          clear hl
          go_enter Try.func18, Try.ntmps18
          go_wp2_with (go_at_call 51; with_reducible refine (calls_bool (IsRing_any _ _ _ hn hn') HS.out).mono ?_)
          rintro _ w1 ⟨rfl, hb1⟩
          obtain ⟨c1, c2⟩ := box_cells hb1
          go_wp2_with (go_at_call 52; with_reducible refine (calls_bool (ContainsFunc_inr _ (HR.out.step hb1) (fun x W hb => isInr1_any x (Nat.lt_of_lt_of_le (Nat.lt_of_lt_of_le (by simp) hb1.size) hb.size) ((hb.cell (Nat.lt_of_lt_of_le (by simp) hb1.size)).trans c1) ((hb.cell (Nat.lt_of_lt_of_le (by simp) hb1.size)).trans c2) HS.out)) HA.out).mono ?_)
          rintro _ w2 ⟨rfl, hb2⟩
          rw [← hb1.cell (p := ⟨b, o + (m - 1), none⟩) hlt, ← hb2.cell (p := ⟨b, o + (m - 1), none⟩) (Nat.lt_of_lt_of_le hlt hb1.size)] at hc
          go_wp2
          go_ret
          exact ⟨ret_bool (by first | rw [HP.out, HL.out] | (rw [HP.out]; simp [HL.out])), (below_box _).trans ((hb1.trans (hb2.mono hb1.size)).mono (by simp))⟩
      · have HA := Lib.hid (show f.any (fun x => !inB x 0 (p ^ n.toNat - 1)) = true by rw [any_not, ha]; rfl)
        have HP := Lib.hid (show inrB p n f = false by rw [inrB, ha]; simp)
        clear ha
        go_enter Try.func18, Try.ntmps18
        go_wp2_with (go_at_call 51; with_reducible refine (calls_bool (IsRing_any _ _ _ hn hn') HS.out).mono ?_)
        rintro _ w1 ⟨rfl, hb1⟩
        obtain ⟨c1, c2⟩ := box_cells hb1
        go_wp2_with (go_at_call 52; with_reducible refine (calls_bool (ContainsFunc_inr _ (HR.out.step hb1) (fun x W hb => isInr1_any x (Nat.lt_of_lt_of_le (Nat.lt_of_lt_of_le (by simp) hb1.size) hb.size) ((hb.cell (Nat.lt_of_lt_of_le (by simp) hb1.size)).trans c1) ((hb.cell (Nat.lt_of_lt_of_le (by simp) hb1.size)).trans c2) HS.out)) HA.out).mono ?_)
        rintro _ w2 ⟨rfl, hb2⟩
        go_wp2
        go_ret
        exact ⟨ret_bool (by rw [HP.out]), (below_box _).trans ((hb1.trans (hb2.mono hb1.size)).mono (by simp))⟩
    · have HP := Lib.hid (show inrB p n f = false by rw [inrB, decide_eq_false (HM.out.symm ▸ h9)]; simp)
      go_enter Try.func18, Try.ntmps18
      go_wp2_with (go_at_call 51; with_reducible refine (calls_bool (IsRing_any _ _ _ hn hn') HS.out).mono ?_)
      rintro _ w1 ⟨rfl, hb1⟩
      go_wp2
      go_ret
      exact ⟨ret_bool (by rw [HP.out]), (by repeat (first | assumption | exact Below.refl _ _ | exact below_box _ | refine Below.drew ?_ | refine Below.setCell ?_ (by first | (simp; done) | (simp; omega)) _ | (refine below_step (by assumption) (by first | omega | (simp; done) | (simp; omega)) ?_) | (refine Below.alloc ?_ (by first | omega | (simp; done) | (simp; omega)) _)))⟩
  · have HS := Lib.hid hs
    have HP := Lib.hid (show inrB p n f = false by rw [inrB, hs]; rfl)
    clear hs
    go_enter Try.func18, Try.ntmps18
    go_wp2_with (go_at_call 51; with_reducible refine (calls_bool (IsRing_any _ _ _ hn hn') HS.out).mono ?_)
    rintro _ w1 ⟨rfl, hb1⟩
    go_wp2
    go_ret
    exact ⟨ret_bool (by rw [HP.out]), (by repeat (first | assumption | exact Below.refl _ _ | exact below_box _ | refine Below.drew ?_ | refine Below.setCell ?_ (by first | (simp; done) | (simp; omega)) _ | (refine below_step (by assumption) (by first | omega | (simp; done) | (simp; omega)) ?_) | (refine Below.alloc ?_ (by first | omega | (simp; done) | (simp; omega)) _)))⟩

set_option maxHeartbeats 1000000 in
theorem sIsInRing_any {p n : Int} {v : Value} {f : List Int} {w : World} (h : Reads w v f) (hn : n ≤ 9223372036854775807) (hn' : -9223372036854775808 ≤ n) :
    Calls Try.prog 15 #[.agg #[.int .i64 p, .int .i64 n], v] w fun e w' => e = .returned (.bool (inrB p n f)) ∧ Below w.heap.size w w' := by
  obtain ⟨a, cap, rfl, h1, h2⟩ := reads_nil_eq h
  obtain ⟨m, hm⟩ : ∃ m, f.length = m := ⟨_, rfl⟩
  rw [hm] at h h1 ⊢
  have HM := Lib.hid hm
  have HR := Lib.hid (h.step (below_box (.cells #[.int .i64 p, .int .i64 n] 26)))
  have hl := h.1
  rw [hm] at hl
  clear h h2 hm
  rcases Bool.eq_false_or_eq_true (ringB p n) with hs | hs
  · have HS := Lib.hid hs
    obtain ⟨r1, r2, r3⟩ := ring_bd hs
    clear hs
    by_cases h9 : m ≤ 9
    · go_enter Try.func15, Try.ntmps15
      go_wp2_with (go_at_call 48; with_reducible refine (calls_bool (specIsRing_any _ _ _ hn hn') HS.out).mono ?_)
      rintro _ w1 ⟨rfl, hb1⟩
      obtain ⟨c1, c2⟩ := box_cells hb1
      have HR1 := Lib.hid (HR.out.step hb1)
      go_wp2_with (go_at_call 49; ((with_reducible refine (l02Modulus_ring _ _ _ HS.out).mono ?_); rintro e w' ⟨rfl, rfl⟩))
      go_loop [6] (fun c => ∃ k : Nat, c = .int .i64 (k : Int) ∧ k ≤ m ∧ Hid (∀ j, j < k → inB (el f j) 0 (p ^ n.toNat - 1) = true)) (fun c => m - (intOf c).toNat)
      case atStart => exact ⟨0, rfl, by omega, Lib.hid (fun j hj => by omega)⟩
      case round =>
        obtain ⟨k, rfl, hk, HI⟩ := hrel
        by_cases hlt : k < m
        · obtain ⟨b, o, rfl, hc⟩ := HR1.out.at (k := k) (by rw [HM.out]; exact hlt)
          rcases Bool.eq_false_or_eq_true (inB (el f k) 0 (p ^ n.toNat - 1)) with hb | hb
          · have HB := Lib.hid hb
            clear hb
            go_wp2_with (go_at_call 50; ((with_reducible refine (calls_bool (l01In_any _ _ _ _) HB.out).mono ?_); rintro e w' ⟨rfl, rfl⟩))
            go_round
            case rel => exact ⟨k + 1, by go_num, by omega, Lib.hid (all_next HI.out HB.out)⟩
            case measure => simp [intOf]; omega
          · have HB := Lib.hid hb
            clear hb
            go_wp2_with (go_at_call 50; ((with_reducible refine (calls_bool (l01In_any _ _ _ _) HB.out).mono ?_); rintro e w' ⟨rfl, rfl⟩))
            go_ret
            exact ⟨ret_bool (by rw [inrB, all_bad (by rw [HM.out]; exact hlt) HB.out]; simp), (by repeat (first | assumption | exact Below.refl _ _ | exact below_box _ | refine Below.drew ?_ | refine Below.setCell ?_ (by first | (simp; done) | (simp; omega)) _ | (refine below_step (by assumption) (by first | omega | (simp; done) | (simp; omega)) ?_) | (refine Below.alloc ?_ (by first | omega | (simp; done) | (simp; omega)) _)))⟩
        · have HA := Lib.hid (all_upto HI.out (by rw [HM.out]; omega))
          clear HI
          have HP := Lib.hid (show inrB p n f = lastB f by rw [inrB, HS.out, HA.out, decide_eq_true (HM.out.symm ▸ h9)]; simp)
          rcases lastB_ways HM.out with ⟨h0, hl⟩ | ⟨h0, hb0, hl⟩
          · have HL := Lib.hid hl
            subst h0
            clear hl
            go_wp2
            go_ret
            exact ⟨ret_bool (by first | rw [HP.out, HL.out] | (rw [HP.out]; simp [HL.out])), (by repeat (first | assumption | exact Below.refl _ _ | exact below_box _ | refine Below.drew ?_ | refine Below.setCell ?_ (by first | (simp; done) | (simp; omega)) _ | (refine below_step (by assumption) (by first | omega | (simp; done) | (simp; omega)) ?_) | (refine Below.alloc ?_ (by first | omega | (simp; done) | (simp; omega)) _)))⟩
          · obtain ⟨b, o, rfl, hc⟩ := HR1.out.at (k := m - 1) (by rw [HM.out]; omega)
            have HL := Lib.hid hl
            clear hl
            go_wp2
            go_ret
            exact ⟨ret_bool (by first | rw [HP.out, HL.out] | (rw [HP.out]; simp [HL.out])), (by repeat (first | assumption | exact Below.refl _ _ | exact below_box _ | refine Below.drew ?_ | refine Below.setCell ?_ (by first | (simp; done) | (simp; omega)) _ | (refine below_step (by assumption) (by first | omega | (simp; done) | (simp; omega)) ?_) | (refine Below.alloc ?_ (by first | omega | (simp; done) | (simp; omega)) _)))⟩
    · have HP := Lib.hid (show inrB p n f = false by rw [inrB, decide_eq_false (HM.out.symm ▸ h9)]; simp)
      go_enter Try.func15, Try.ntmps15
      go_wp2_with (go_at_call 48; with_reducible refine (calls_bool (specIsRing_any _ _ _ hn hn') HS.out).mono ?_)
      rintro _ w1 ⟨rfl, hb1⟩
      go_wp2
      go_ret
      exact ⟨ret_bool (by rw [HP.out]), (by repeat (first | assumption | exact Below.refl _ _ | exact below_box _ | refine Below.drew ?_ | refine Below.setCell ?_ (by first | (simp; done) | (simp; omega)) _ | (refine below_step (by assumption) (by first | omega | (simp; done) | (simp; omega)) ?_) | (refine Below.alloc ?_ (by first | omega | (simp; done) | (simp; omega)) _)))⟩
  · have HS := Lib.hid hs
    have HP := Lib.hid (show inrB p n f = false by rw [inrB, hs]; rfl)
    clear hs
    go_enter Try.func15, Try.ntmps15
    go_wp2_with (go_at_call 48; with_reducible refine (calls_bool (specIsRing_any _ _ _ hn hn') HS.out).mono ?_)
    rintro _ w1 ⟨rfl, hb1⟩
    go_wp2
    go_ret
    exact ⟨ret_bool (by rw [HP.out]), (by repeat (first | assumption | exact Below.refl _ _ | exact below_box _ | refine Below.drew ?_ | refine Below.setCell ?_ (by first | (simp; done) | (simp; omega)) _ | (refine below_step (by assumption) (by first | omega | (simp; done) | (simp; omega)) ?_) | (refine Below.alloc ?_ (by first | omega | (simp; done) | (simp; omega)) _)))⟩

/-! ### ReduceToRing -/
def rtrL (p n : Int) (f : List Int) : List Int := if ringB p n then if polyB f then redL (p ^ n.toNat) f else [] else []
def rtrC (p n : Int) (f : List Int) : Int := if ringB p n then if polyB f then 0 else 1 else 1
set_option maxHeartbeats 1000000 in
theorem ReduceToRing_any {p n : Int} {v : Value} {f : List Int} {w : World} (h : Reads w v f) (hn : n ≤ 9223372036854775807) (hn' : -9223372036854775808 ≤ n) :
    Calls Try.prog 21 #[.agg #[.int .i64 p, .int .i64 n], v] w (RetIC (rtrL p n f) (rtrC p n f) w) := by
  have HR := Lib.hid (h.step (below_box (.cells #[.int .i64 p, .int .i64 n] 26)))
  clear h
  rcases Bool.eq_false_or_eq_true (ringB p n) with hs | hs
  · have HS := Lib.hid hs
    obtain ⟨r1, r2, r3⟩ := ring_bd hs
    clear hs
    rcases Bool.eq_false_or_eq_true (polyB f) with hp | hp
    · have HP := Lib.hid hp
      obtain ⟨p1, p2, p3⟩ := polyB_bd hp
      clear hp p2 p3
      go_enter Try.func21, Try.ntmps21
      go_wp2_with (go_at_call 51; with_reducible refine (calls_bool (IsRing_any _ _ _ hn hn') HS.out).mono ?_)
      rintro _ w1 ⟨rfl, hb1⟩
      obtain ⟨c1, c2⟩ := box_cells hb1
      have HR1 := Lib.hid (HR.out.step hb1)
      go_wp2_with (go_at_call 57; ((with_reducible refine (calls_bool (IsPolynomial_any HR1.out) HP.out).mono ?_); rintro e w' ⟨rfl, rfl⟩))
      go_wp2_with (go_at_call 59; with_reducible refine (modulus_any _ _ _ HS.out).mono ?_)
      rintro _ w2 ⟨rfl, hb2⟩
      have HB := Lib.hid (show Below w.heap.size w w2 from (below_box _).trans ((hb1.trans (hb2.mono hb1.size)).mono (by simp)))
      go_wp2_with (go_at_call 58; with_reducible refine (reduce_any (HR1.out.step hb2) ⟨by omega, by omega⟩ (by omega)).mono ?_)
      rintro _ w3 ⟨v3, rfl, o3, hb3⟩
      go_wp2
      go_ret2
      exact ⟨v3, by simp [rtrC, HS.out, HP.out], by simpa [rtrL, HS.out, HP.out] using o3.mono HB.out.size, HB.out.trans (hb3.mono HB.out.size)⟩
    · have HP := Lib.hid hp
      clear hp
      go_enter Try.func21, Try.ntmps21
      go_wp2_with (go_at_call 51; with_reducible refine (calls_bool (IsRing_any _ _ _ hn hn') HS.out).mono ?_)
      rintro _ w1 ⟨rfl, hb1⟩
      have HR1 := Lib.hid (HR.out.step hb1)
      go_wp2_with (go_at_call 57; ((with_reducible refine (calls_bool (IsPolynomial_any HR1.out) HP.out).mono ?_); rintro e w' ⟨rfl, rfl⟩))
      go_ret2
      exact ⟨.slice none 0 0, by simp [rtrC, HS.out, HP.out], by simpa [rtrL, HS.out, HP.out] using Own.nil, (by repeat (first | assumption | exact Below.refl _ _ | exact below_box _ | refine Below.drew ?_ | refine Below.setCell ?_ (by first | (simp; done) | (simp; omega)) _ | (refine below_step (by assumption) (by first | omega | (simp; done) | (simp; omega)) ?_) | (refine Below.alloc ?_ (by first | omega | (simp; done) | (simp; omega)) _)))⟩
  · have HS := Lib.hid hs
    clear hs
    go_enter Try.func21, Try.ntmps21
    go_wp2_with (go_at_call 51; with_reducible refine (calls_bool (IsRing_any _ _ _ hn hn') HS.out).mono ?_)
    rintro _ w1 ⟨rfl, hb1⟩
    go_wp2
    go_ret2
    exact ⟨.slice none 0 0, by simp [rtrC, HS.out], by simpa [rtrL, HS.out] using Own.nil, (by repeat (first | assumption | exact Below.refl _ _ | exact below_box _ | refine Below.drew ?_ | refine Below.setCell ?_ (by first | (simp; done) | (simp; omega)) _ | (refine below_step (by assumption) (by first | omega | (simp; done) | (simp; omega)) ?_) | (refine Below.alloc ?_ (by first | omega | (simp; done) | (simp; omega)) _)))⟩
set_option maxHeartbeats 1000000 in
theorem sReduceToRing_any {p n : Int} {v : Value} {f : List Int} {w : World} (h : Reads w v f) (hn : n ≤ 9223372036854775807) (hn' : -9223372036854775808 ≤ n) :
    Calls Try.prog 20 #[.agg #[.int .i64 p, .int .i64 n], v] w (RetIC (rtrL p n f) (rtrC p n f) w) := by
  have HR := Lib.hid (h.step (below_box (.cells #[.int .i64 p, .int .i64 n] 26)))
  clear h
  rcases Bool.eq_false_or_eq_true (ringB p n) with hs | hs
  · have HS := Lib.hid hs
    obtain ⟨r1, r2, r3⟩ := ring_bd hs
    clear hs
    rcases Bool.eq_false_or_eq_true (polyB f) with hp | hp
    · have HP := Lib.hid hp
      obtain ⟨p1, p2, p3⟩ := polyB_bd hp
      clear hp p2 p3
      go_enter Try.func20, Try.ntmps20
      go_wp2_with (go_at_call 48; with_reducible refine (calls_bool (specIsRing_any _ _ _ hn hn') HS.out).mono ?_)
      rintro _ w1 ⟨rfl, hb1⟩
      obtain ⟨c1, c2⟩ := box_cells hb1
      have HR1 := Lib.hid (HR.out.step hb1)
      have HB := Lib.hid (show Below w.heap.size w w1 from (below_box _).trans (hb1.mono (by simp)))
      go_wp2_with (first | (go_at_call 55; ((with_reducible refine (calls_bool (sIsPolynomial_any HR1.out) HP.out).mono ?_); rintro e w' ⟨rfl, rfl⟩)) | (go_at_call 49; ((with_reducible refine (l02Modulus_ring _ _ _ HS.out).mono ?_); rintro e w' ⟨rfl, rfl⟩)) | (go_at_call 56; with_reducible refine (l08Reduce_any HR1.out ⟨by omega, by omega⟩ (by omega)).mono ?_))
      rintro _ w3 ⟨v3, rfl, o3, hb3⟩
      go_wp2
      go_ret2
      exact ⟨v3, by simp [rtrC, HS.out, HP.out], by simpa [rtrL, HS.out, HP.out] using o3.mono HB.out.size, HB.out.trans (hb3.mono HB.out.size)⟩
    · have HP := Lib.hid hp
      clear hp
      go_enter Try.func20, Try.ntmps20
      go_wp2_with (go_at_call 48; with_reducible refine (calls_bool (specIsRing_any _ _ _ hn hn') HS.out).mono ?_)
      rintro _ w1 ⟨rfl, hb1⟩
      have HR1 := Lib.hid (HR.out.step hb1)
      go_wp2_with (go_at_call 55; ((with_reducible refine (calls_bool (sIsPolynomial_any HR1.out) HP.out).mono ?_); rintro e w' ⟨rfl, rfl⟩))
      go_ret2
      exact ⟨.slice none 0 0, by simp [rtrC, HS.out, HP.out], by simpa [rtrL, HS.out, HP.out] using Own.nil, (by repeat (first | assumption | exact Below.refl _ _ | exact below_box _ | refine Below.drew ?_ | refine Below.setCell ?_ (by first | (simp; done) | (simp; omega)) _ | (refine below_step (by assumption) (by first | omega | (simp; done) | (simp; omega)) ?_) | (refine Below.alloc ?_ (by first | omega | (simp; done) | (simp; omega)) _)))⟩
  · have HS := Lib.hid hs
    clear hs
    go_enter Try.func20, Try.ntmps20
    go_wp2_with (go_at_call 48; with_reducible refine (calls_bool (specIsRing_any _ _ _ hn hn') HS.out).mono ?_)
    rintro _ w1 ⟨rfl, hb1⟩
    go_wp2
    go_ret2
    exact ⟨.slice none 0 0, by simp [rtrC, HS.out], by simpa [rtrL, HS.out] using Own.nil, (by repeat (first | assumption | exact Below.refl _ _ | exact below_box _ | refine Below.drew ?_ | refine Below.setCell ?_ (by first | (simp; done) | (simp; omega)) _ | (refine below_step (by assumption) (by first | omega | (simp; done) | (simp; omega)) ?_) | (refine Below.alloc ?_ (by first | omega | (simp; done) | (simp; omega)) _)))⟩

end Go.Proofs.Ythepcmppibibfaa
