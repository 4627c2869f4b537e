/- 'laws.FnExactFindConic' returns true for all arguments: the program's FindConic and the reference's give the same. Conditions: none. -/
import Derived.Test.YtjampkjgapkklaaRows
import Derived.WalkKit
import Derived.ProofKit
import Derived.OpenShut
import Derived.ShutString
import Derived.ChangeOld
import Derived.Below
import Derived.Lib.SmallJoins
import Derived.Test.YtjampkjgapkklaaR
namespace Go.Proofs.Ytjampkjgapkklaa.findConic
open Go.ChangeShapes Go.WideShapes Go.ChangeAt Go.RowKit
open Go.ChangeMaps (open_string shut_string)
set_option linter.unusedVariables false
set_option linter.unusedSimpArgs false

/-- The first thing that f gives below n. -/
def srch {α : Type} (f : Nat → Option α) : Nat → Option α
  | 0 => none
  | n + 1 => match srch f n with
    | some v => some v
    | none => f n
theorem srch_none {α : Type} {f : Nat → Option α} : ∀ n, (∀ j, j < n → f j = none) → srch f n = none
  | 0, _ => rfl
  | n + 1, h => by simp only [srch]; rw [srch_none n (fun j hj => h j (by omega))]; exact h n (by omega)
theorem srch_found {α : Type} {f : Nat → Option α} {k : Nat} {v : α} (h : ∀ j, j < k → f j = none) (hv : f k = some v) : ∀ n, k < n → srch f n = some v
  | 0, hk => by omega
  | n + 1, hk => by
    simp only [srch]
    by_cases e : k = n
    · subst e; rw [srch_none k h]; exact hv
    · rw [srch_found h hv n (by omega)]
def lhs (a b : Int) (x y : Nat) : Int := a * x * x + b * y * y
def zAt (a b : Int) (m x y : Nat) : Option Nat := srch (fun z => if lhs a b x y = (z : Int) * z then some z else none) (m + 1)
def fY (a b : Int) (m x y : Nat) : Option (Nat × Nat) := if x = 0 ∧ y = 0 then none else (zAt a b m x y).map fun z => (y, z)
def fX (a b : Int) (m x : Nat) : Option (Nat × Nat × Nat) := (srch (fY a b m x) (m + 1)).map fun q => (x, q)
def con (a b : Int) (m : Nat) : Option (Nat × Nat × Nat) := srch (fX a b m) (m + 1)
def conV (a b : Int) (m : Nat) : Value := match con a b m with
  | some (x, y, z) => .tuple #[.int .i64 x, .int .i64 y, .int .i64 z, .int .i64 0]
  | none => .tuple #[.int .i64 0, .int .i64 0, .int .i64 0, .int .i64 4]
def okA (n : Int) : Bool := n != 0 && inB n (-1000000) 1000000
def okB (a b m : Int) : Bool := okA a && okA b && inB m 0 100
def outV (a b m : Int) : Value := if okB a b m then conV a b m.toNat else .tuple #[.int .i64 0, .int .i64 0, .int .i64 0, .int .i64 2]
theorem con_found {a b : Int} {m x y z : Nat} (hx : ∀ j, j < x → fX a b m j = none) (hy : ∀ j, j < y → fY a b m x j = none) (hz : ∀ j, j < z → lhs a b x y ≠ (j : Int) * j) (he : lhs a b x y = (z : Int) * z) (hn : ¬ (x = 0 ∧ y = 0)) (h1 : x ≤ m) (h2 : y ≤ m) (h3 : z ≤ m) :
    conV a b m = .tuple #[.int .i64 x, .int .i64 y, .int .i64 z, .int .i64 0] := by
  have e1 : zAt a b m x y = some z := srch_found (fun j hj => by rw [if_neg (hz j hj)]) (by rw [if_pos he]) _ (by omega)
  have e2 : fY a b m x y = some (y, z) := by unfold fY; rw [if_neg hn, e1]; rfl
  have e3 : fX a b m x = some (x, y, z) := by unfold fX; rw [srch_found hy e2 _ (by omega)]; rfl
  have e4 : con a b m = some (x, y, z) := srch_found hx e3 _ (by omega)
  unfold conV
  rw [e4]
theorem con_none {a b : Int} {m : Nat} (hx : ∀ j, j < m + 1 → fX a b m j = none) : conV a b m = .tuple #[.int .i64 0, .int .i64 0, .int .i64 0, .int .i64 4] := by
  have e4 : con a b m = none := srch_none _ hx
  unfold conV
  rw [e4]
theorem fX_none {a b : Int} {m x : Nat} (hy : ∀ j, j < m + 1 → fY a b m x j = none) : fX a b m x = none := by unfold fX; rw [srch_none _ hy]; rfl
theorem fY_none {a b : Int} {m x y : Nat} (hz : ∀ j, j < m + 1 → lhs a b x y ≠ (j : Int) * j) : fY a b m x y = none := by
  unfold fY
  by_cases h : x = 0 ∧ y = 0
  · rw [if_pos h]
  · rw [if_neg h]
    have : zAt a b m x y = none := srch_none _ (fun j hj => by rw [if_neg (hz j hj)])
    rw [this]; rfl
theorem fY_zero {a b : Int} {m x y : Nat} (h : x = 0 ∧ y = 0) : fY a b m x y = none := by unfold fY; rw [if_pos h]
theorem mul_bd {u v U V : Int} (hu : -U ≤ u ∧ u ≤ U) (hv : 0 ≤ v ∧ v ≤ V) : -(U * V) ≤ u * v ∧ u * v ≤ U * V := by
  have h1 : 0 ≤ (U - u) * V := Int.mul_nonneg (by omega) (by omega)
  have h2 : 0 ≤ (U + u) * V := Int.mul_nonneg (by omega) (by omega)
  have h3 : 0 ≤ (U - u) * v := Int.mul_nonneg (by omega) (by omega)
  have h4 : 0 ≤ (U + u) * v := Int.mul_nonneg (by omega) (by omega)
  have h5 : 0 ≤ U * (V - v) := Int.mul_nonneg (by omega) (by omega)
  simp only [Int.sub_mul, Int.add_mul, Int.mul_sub] at h1 h2 h3 h4 h5
  omega
theorem term_bd {a x : Int} (ha : -1000000 ≤ a ∧ a ≤ 1000000) (h0 : 0 ≤ x) (hx : x ≤ 101) : (-101000000 ≤ a * x ∧ a * x ≤ 101000000) ∧ (-10201000000 ≤ a * x * x ∧ a * x * x ≤ 10201000000) := by
  have h1 := mul_bd (U := 1000000) (V := 101) (u := a) (v := x) ha (by omega)
  have h2 := mul_bd (U := 101000000) (V := 101) (u := a * x) (v := x) (by omega) (by omega)
  omega
theorem sq_bd' {z : Int} (h0 : 0 ≤ z) (hz : z ≤ 101) : 0 ≤ z * z ∧ z * z ≤ 10201 := by
  have h1 := mul_bd (U := 101) (V := 101) (u := z) (v := z) (by omega) (by omega)
  have := Int.mul_nonneg h0 h0
  omega
theorem sq_bd {z : Nat} (hz : z ≤ 101) : 0 ≤ (z : Int) * z ∧ (z : Int) * z ≤ 10201 := by
  have h1 := mul_bd (U := 101) (V := 101) (u := z) (v := z) (by omega) (by omega)
  have := Int.mul_nonneg (show 0 ≤ (z : Int) by omega) (show 0 ≤ (z : Int) by omega)
  omega

def Root (n : Int) (m : Nat) (w : World) (e : Ending) (w' : World) : Prop := (∃ r : Int, e = .returned (.int .i64 r) ∧ (((r = -1) ∧ ∀ j : Nat, j < m + 1 → n ≠ (j : Int) * j) ∨ (∃ z : Nat, r = z ∧ z ≤ m ∧ (∀ j : Nat, j < z → n ≠ (j : Int) * j) ∧ n = (z : Int) * z))) ∧ w = w'
set_option maxHeartbeats 2000000 in
theorem l16Root_any (n : Int) (m : Nat) (w : World) (hm : m ≤ 100) :
    Calls Try.prog 51 #[.int .i64 n, .int .i64 (m : Int)] w (Root n m w) := by
  go_enter Try.func51, Try.ntmps51
  go_wp2
  go_loop [5] (fun c => ∃ z : Nat, c = .int .i64 (z : Int) ∧ z ≤ m + 1 ∧ Hid (∀ j : Nat, j < z → n ≠ (j : Int) * j)) (fun c => m + 1 - (intOf c).toNat)
  case atStart => exact ⟨0, rfl, by omega, Lib.hid (fun j hj => by omega)⟩
  case round =>
    obtain ⟨z, rfl, hz, HA⟩ := hrel
    obtain ⟨s1, s2⟩ := sq_bd (show z ≤ 101 by omega)
    by_cases hlt : z ≤ m
    · by_cases he : (z : Int) * z = n
      · have he' : ((z : Int) * z == n) = true := by simpa using he
        have HE := Lib.hid he.symm
        clear he
        go_wp2
        go_ret
        exact ⟨⟨_, rfl, .inr ⟨z, rfl, hlt, HA.out, HE.out⟩⟩, rfl⟩
      · have he' : ((z : Int) * z == n) = false := by simpa using he
        have HE := Lib.hid (fun h : n = (z : Int) * z => he h.symm)
        clear he
        go_wp2
        go_round
        case rel => exact ⟨z + 1, by go_num, by omega, Lib.hid (fun j hj => by by_cases e : j = z; { subst e; exact HE.out }; { exact HA.out j (by omega) })⟩
        case measure => simp [intOf]; omega
    · obtain rfl : z = m + 1 := by omega
      clear s1 s2
      go_wp2
      go_ret
      exact ⟨⟨_, rfl, .inl ⟨rfl, HA.out⟩⟩, rfl⟩

theorem ok_iff {n : Int} : okA n = true ↔ n ≠ 0 ∧ -1000000 ≤ n ∧ n ≤ 1000000 := by unfold okA; rw [Bool.and_eq_true, inB_iff, bne_iff_ne]
theorem ok_nz {n : Int} (h : okA n = true) : nzB n = true := nz_iff.2 (by have := ok_iff.1 h; omega)
theorem ok_in {n : Int} (h : okA n = true) : inB n (-1000000) 1000000 = true := inB_iff.2 (by have := ok_iff.1 h; omega)

set_option maxRecDepth 100000 in
set_option maxHeartbeats 4000000 in
theorem spec_good (a b m : Int) (w : World) (h : okB a b m = true) :
    Calls Try.prog 15 #[.int .i64 a, .int .i64 b, .int .i64 m] w fun e w' => e = .returned (outV a b m) ∧ Below w.heap.size w w' := by
  have HO := Lib.hid (show outV a b m = conV a b m.toNat by unfold outV; rw [if_pos h])
  unfold okB at h
  rw [Bool.and_eq_true, Bool.and_eq_true] at h
  obtain ⟨⟨ha, hb⟩, hm⟩ := h
  have HM := Lib.hid hm
  obtain ⟨m0, m1⟩ := inB_iff.1 hm
  obtain ⟨M, rfl⟩ : ∃ M : Nat, m = M := ⟨m.toNat, by omega⟩
  rw [Int.toNat_natCast] at HO
  obtain ⟨_, ha1⟩ := ok_iff.1 ha
  obtain ⟨_, hb1⟩ := ok_iff.1 hb
  have H2 := Lib.hid (show twoCode a b = 0 by simp [twoCode, ok_nz ha, ok_nz hb])
  have HA := Lib.hid (ok_in ha)
  have HB := Lib.hid (ok_in hb)
  clear ha hb hm
  go_enter Try.func15, Try.ntmps15
  go_wp2_with (first | (go_at_call 49; ((with_reducible refine (calls_int (l16Two_any _ _ _) H2.out).mono ?_); rintro e w' ⟨rfl, rfl⟩)) | (go_at_call 50; ((with_reducible refine (calls_bool (l01In_any _ _ _ _) HM.out).mono ?_); rintro e w' ⟨rfl, rfl⟩)) | (go_at_call 50; ((with_reducible refine (calls_bool (l01In_any _ _ _ _) HA.out).mono ?_); rintro e w' ⟨rfl, rfl⟩)) | (go_at_call 50; ((with_reducible refine (calls_bool (l01In_any _ _ _ _) HB.out).mono ?_); rintro e w' ⟨rfl, rfl⟩)))
  go_loop [10] (fun c => ∃ (x : Nat) (X : Int), c = .int .i64 X ∧ Hid (X = x) ∧ 0 ≤ X ∧ X ≤ M + 1 ∧ Hid (∀ j, j < x → fX a b M j = none)) (fun c => M + 1 - (intOf c).toNat)
  case atStart => exact ⟨0, 0, rfl, Lib.hid rfl, by omega, by omega, Lib.hid (fun j hj => by omega)⟩
  case round =>
    obtain ⟨x, X, rfl, EX, x0, x1, HX⟩ := hrel
    by_cases hlt : X ≤ M
    · go_wp2
      go_loop [11] (fun c => ∃ (y : Nat) (Y : Int), c = .int .i64 Y ∧ Hid (Y = y) ∧ 0 ≤ Y ∧ Y ≤ M + 1 ∧ Hid (∀ j, j < y → fY a b M x j = none)) (fun c => M + 1 - (intOf c).toNat)
      case atStart => exact ⟨0, 0, rfl, Lib.hid rfl, by omega, by omega, Lib.hid (fun j hj => by omega)⟩
      case round =>
        obtain ⟨y, Y, rfl, EY, y0, y1, HY⟩ := hrel
        by_cases hlt2 : Y ≤ M
        · obtain ⟨p1, p2⟩ := term_bd ha1 x0 (show X ≤ 101 by omega)
          obtain ⟨q1, q2⟩ := term_bd hb1 y0 (show Y ≤ 101 by omega)
          go_wp2_with (go_at_call 51; with_reducible refine (l16Root_any _ _ _ (by omega)).mono ?_)
          rintro _ _ ⟨⟨r, rfl, hr⟩, rfl⟩
          rw [EX.out, EY.out] at hr
          rcases hr with ⟨rfl, hr⟩ | ⟨z, rfl, hz, hzn, hze⟩
          · have HN := Lib.hid (fY_none (a := a) (b := b) (x := x) (y := y) hr)
            clear hr
            go_wp2
            go_round
            case rel => exact ⟨y + 1, Y + 1, rfl, Lib.hid (by rw [EY.out]; rfl), by omega, by omega, Lib.hid (fun j hj => by by_cases e : j = y; { subst e; exact HN.out }; { exact HY.out j (by omega) })⟩
            case measure => simp [intOf]; omega
          · have HZ := Lib.hid hzn
            have HE := Lib.hid hze
            clear hzn hze
            by_cases h1 : 0 < X
            · have HF := Lib.hid (con_found HX.out HY.out HZ.out HE.out (by have := EX.out; omega) (by have := EX.out; omega) (by have := EY.out; omega) hz)
              go_wp2
              refine bodyPost_ret (v := .tuple #[.int .i64 X, .int .i64 Y, .int .i64 z, .int .i64 0]) (by simp [results, Try.results15, go_sem, ↓IntWalk.iteOmega]) rfl ?_
              exact ⟨by rw [HO.out, HF.out, EX.out, EY.out], Below.refl _ _⟩
            · by_cases h2 : 0 < Y
              · have HF := Lib.hid (con_found HX.out HY.out HZ.out HE.out (by have := EY.out; omega) (by have := EX.out; omega) (by have := EY.out; omega) hz)
                go_wp2
                refine bodyPost_ret (v := .tuple #[.int .i64 X, .int .i64 Y, .int .i64 z, .int .i64 0]) (by simp [results, Try.results15, go_sem, ↓IntWalk.iteOmega]) rfl ?_
                exact ⟨by rw [HO.out, HF.out, EX.out, EY.out], Below.refl _ _⟩
              · have HN := Lib.hid (fY_zero (a := a) (b := b) (m := M) (x := x) (y := y) (by have := EX.out; have := EY.out; omega))
                go_wp2
                go_round
                case rel => exact ⟨y + 1, Y + 1, rfl, Lib.hid (by rw [EY.out]; rfl), by omega, by omega, Lib.hid (fun j hj => by by_cases e : j = y; { subst e; exact HN.out }; { exact HY.out j (by omega) })⟩
                case measure => simp [intOf]; omega
        · have HN := Lib.hid (fX_none (show ∀ j, j < M + 1 → fY a b M x j = none by rw [show M + 1 = y by have := EY.out; omega]; exact HY.out))
          go_wp2
          go_round
          case rel => exact ⟨x + 1, X + 1, rfl, Lib.hid (by rw [EX.out]; rfl), by omega, by omega, Lib.hid (fun j hj => by by_cases e : j = x; { subst e; exact HN.out }; { exact HX.out j (by omega) })⟩
          case measure => simp [intOf]; omega
    · have HN := Lib.hid (con_none (show ∀ j, j < M + 1 → fX a b M j = none by rw [show M + 1 = x by have := EX.out; omega]; exact HX.out))
      go_wp2
      refine bodyPost_ret (v := .tuple #[.int .i64 0, .int .i64 0, .int .i64 0, .int .i64 4]) (by simp [results, Try.results15, go_sem, ↓IntWalk.iteOmega]) rfl ?_
      exact ⟨by rw [HO.out, HN.out], Below.refl _ _⟩

theorem out_bad {a b m : Int} (h : okB a b m = false) : outV a b m = .tuple #[.int .i64 0, .int .i64 0, .int .i64 0, .int .i64 2] := by unfold outV; rw [h]; rfl
set_option maxRecDepth 100000 in
set_option maxHeartbeats 2000000 in
theorem spec_bad (a b m : Int) (w : World) (h : okB a b m = false) :
    Calls Try.prog 15 #[.int .i64 a, .int .i64 b, .int .i64 m] w fun e w' => e = .returned (outV a b m) ∧ Below w.heap.size w w' := by
  have HO := Lib.hid (out_bad h)
  have HK := Lib.hid h
  clear h
  by_cases h2 : twoCode a b = 0
  case neg =>
    have H2 := Lib.hid (show twoCode a b = 2 by
      unfold twoCode at h2 ⊢
      split at h2
      · split at h2
        · exact absurd rfl h2
        · rename_i h3 h4; rw [if_pos h3, if_neg h4]
      · rename_i h3; rw [if_neg h3])
    clear h2
    go_enter Try.func15, Try.ntmps15
    go_wp2_with (go_at_call 49; ((with_reducible refine (calls_int (l16Two_any _ _ _) H2.out).mono ?_); rintro e w' ⟨rfl, rfl⟩))
    refine bodyPost_ret (v := .tuple #[.int .i64 0, .int .i64 0, .int .i64 0, .int .i64 2]) (by simp [results, Try.results15, go_sem, ↓IntWalk.iteOmega]) rfl ?_
    exact ⟨by rw [HO.out], Below.refl _ _⟩
  have H2 := Lib.hid h2
  clear h2
  rcases Bool.eq_false_or_eq_true (inB m 0 100) with hm | hm
  case inr =>
    have HM := Lib.hid hm
    clear hm
    go_enter Try.func15, Try.ntmps15
    go_wp2_with (first | (go_at_call 49; ((with_reducible refine (calls_int (l16Two_any _ _ _) H2.out).mono ?_); rintro e w' ⟨rfl, rfl⟩)) | (go_at_call 50; ((with_reducible refine (calls_bool (l01In_any _ _ _ _) HM.out).mono ?_); rintro e w' ⟨rfl, rfl⟩)))
    refine bodyPost_ret (v := .tuple #[.int .i64 0, .int .i64 0, .int .i64 0, .int .i64 2]) (by simp [results, Try.results15, go_sem, ↓IntWalk.iteOmega]) rfl ?_
    exact ⟨by rw [HO.out], Below.refl _ _⟩
  have HM := Lib.hid hm
  clear hm
  rcases Bool.eq_false_or_eq_true (inB a (-1000000) 1000000) with ha | ha
  case inr =>
    have HA := Lib.hid ha
    clear ha
    go_enter Try.func15, Try.ntmps15
    go_wp2_with (first | (go_at_call 49; ((with_reducible refine (calls_int (l16Two_any _ _ _) H2.out).mono ?_); rintro e w' ⟨rfl, rfl⟩)) | (go_at_call 50; ((with_reducible refine (calls_bool (l01In_any _ _ _ _) HM.out).mono ?_); rintro e w' ⟨rfl, rfl⟩)) | (go_at_call 50; ((with_reducible refine (calls_bool (l01In_any _ _ _ _) HA.out).mono ?_); rintro e w' ⟨rfl, rfl⟩)))
    refine bodyPost_ret (v := .tuple #[.int .i64 0, .int .i64 0, .int .i64 0, .int .i64 2]) (by simp [results, Try.results15, go_sem, ↓IntWalk.iteOmega]) rfl ?_
    exact ⟨by rw [HO.out], Below.refl _ _⟩
  have HA := Lib.hid ha
  clear ha
  have HB := Lib.hid (show inB b (-1000000) 1000000 = false by
    rw [Bool.eq_false_iff]
    intro hb
    have h2 := H2.out
    unfold twoCode at h2
    split at h2
    · rename_i h3
      split at h2
      · rename_i h4
        have := HK.out
        rw [Bool.eq_false_iff] at this
        refine this ?_
        unfold okB okA
        rw [HA.out, hb, HM.out]
        have := (nz_iff.1 h3).2
        have := (nz_iff.1 h4).2
        simp [*]
      · cases h2
    · cases h2)
  go_enter Try.func15, Try.ntmps15
  go_wp2_with (first | (go_at_call 49; ((with_reducible refine (calls_int (l16Two_any _ _ _) H2.out).mono ?_); rintro e w' ⟨rfl, rfl⟩)) | (go_at_call 50; ((with_reducible refine (calls_bool (l01In_any _ _ _ _) HM.out).mono ?_); rintro e w' ⟨rfl, rfl⟩)) | (go_at_call 50; ((with_reducible refine (calls_bool (l01In_any _ _ _ _) HA.out).mono ?_); rintro e w' ⟨rfl, rfl⟩)) | (go_at_call 50; ((with_reducible refine (calls_bool (l01In_any _ _ _ _) HB.out).mono ?_); rintro e w' ⟨rfl, rfl⟩)))
  refine bodyPost_ret (v := .tuple #[.int .i64 0, .int .i64 0, .int .i64 0, .int .i64 2]) (by simp [results, Try.results15, go_sem, ↓IntWalk.iteOmega]) rfl ?_
  exact ⟨by rw [HO.out], Below.refl _ _⟩
theorem spec_any (a b m : Int) (w : World) :
    Calls Try.prog 15 #[.int .i64 a, .int .i64 b, .int .i64 m] w fun e w' => e = .returned (outV a b m) ∧ Below w.heap.size w w' := by
  rcases Bool.eq_false_or_eq_true (okB a b m) with h | h
  · exact spec_good a b m w h
  · exact spec_bad a b m w h

def In2 (c : Value) (n : Nat) : Prop := (c = .int .i64 0) ∨ (1 ≤ n ∧ c = .int .i64 1) ∨ (2 ≤ n ∧ c = .int .i64 2)
set_option maxRecDepth 100000 in
set_option maxHeartbeats 4000000 in
theorem impl_good (a b m : Int) (w : World) (h : okB a b m = true) :
    Calls Try.prog 16 #[.int .i64 a, .int .i64 b, .int .i64 m] w fun e w' => e = .returned (outV a b m) ∧ Below w.heap.size w w' := by
  have HO := Lib.hid (show outV a b m = conV a b m.toNat by unfold outV; rw [if_pos h])
  unfold okB at h
  rw [Bool.and_eq_true, Bool.and_eq_true] at h
  obtain ⟨⟨ha, hb⟩, hm⟩ := h
  have HM := Lib.hid hm
  obtain ⟨m0, m1⟩ := inB_iff.1 hm
  obtain ⟨M, rfl⟩ : ∃ M : Nat, m = M := ⟨m.toNat, by omega⟩
  rw [Int.toNat_natCast] at HO
  obtain ⟨ha0, ha1⟩ := ok_iff.1 ha
  obtain ⟨hb0, hb1⟩ := ok_iff.1 hb
  have hza : (a == 0) = false := by simpa using ha0
  have hzb : (b == 0) = false := by simpa using hb0
  have HA := Lib.hid (ok_in ha)
  have HB := Lib.hid (ok_in hb)
  clear ha hb hm ha0 hb0
  go_enter Try.func16, Try.ntmps16
  go_wp2
  go_loop [19] (fun c => In2 c 2) (fun c => 2 - (intOf c).toNat)
  case atStart => exact .inl rfl
  case round =>
    rcases hrel with rfl | ⟨_, rfl⟩ | ⟨_, rfl⟩
    · go_wp2_with (go_at_call 52; ((with_reducible refine (calls_bool (within_any _ _ _ _) HA.out).mono ?_); rintro e w' ⟨rfl, rfl⟩))
      go_round
      case rel => exact .inr (.inl ⟨by omega, rfl⟩)
      case measure => simp [intOf]
    · go_wp2_with (go_at_call 52; ((with_reducible refine (calls_bool (within_any _ _ _ _) HB.out).mono ?_); rintro e w' ⟨rfl, rfl⟩))
      go_round
      case rel => exact .inr (.inr ⟨by omega, rfl⟩)
      case measure => simp [intOf]
    · go_wp2_with (go_at_call 52; ((with_reducible refine (calls_bool (within_any _ _ _ _) HM.out).mono ?_); rintro e w' ⟨rfl, rfl⟩))
      go_loop [36] (fun c => ∃ (x : Nat) (X : Int), c = .int .i64 X ∧ Hid (X = x) ∧ 0 ≤ X ∧ X ≤ M + 1 ∧ Hid (∀ j, j < x → fX a b M j = none)) (fun c => M + 1 - (intOf c).toNat)
      case atStart => exact ⟨0, 0, rfl, Lib.hid rfl, by omega, by omega, Lib.hid (fun j hj => by omega)⟩
      case round =>
        obtain ⟨x, X, rfl, EX, x0, x1, HX⟩ := hrel
        by_cases hlt : X ≤ M
        · go_wp2
          go_loop [41] (fun c => ∃ (y : Nat) (Y : Int), c = .int .i64 Y ∧ Hid (Y = y) ∧ 0 ≤ Y ∧ Y ≤ M + 1 ∧ Hid (∀ j, j < y → fY a b M x j = none)) (fun c => M + 1 - (intOf c).toNat)
          case atStart => exact ⟨0, 0, rfl, Lib.hid rfl, by omega, by omega, Lib.hid (fun j hj => by omega)⟩
          case round =>
            obtain ⟨y, Y, rfl, EY, y0, y1, HY⟩ := hrel
            by_cases hlt2 : Y ≤ M
            · obtain ⟨p1, p2⟩ := term_bd ha1 x0 (show X ≤ 101 by omega)
              obtain ⟨q1, q2⟩ := term_bd hb1 y0 (show Y ≤ 101 by omega)
              go_wp2
              go_loop [46] (fun c => ∃ (z : Nat) (Z : Int), c = .int .i64 Z ∧ Hid (Z = z) ∧ 0 ≤ Z ∧ Z ≤ M + 1 ∧ Hid (∀ j, j < z → (x = 0 ∧ y = 0) ∨ lhs a b x y ≠ (j : Int) * j)) (fun c => M + 1 - (intOf c).toNat)
              case atStart => exact ⟨0, 0, rfl, Lib.hid rfl, by omega, by omega, Lib.hid (fun j hj => by omega)⟩
              case round =>
                obtain ⟨z, Z, rfl, EZ, z0, z1, HZ⟩ := hrel
                obtain ⟨s1, s2⟩ := sq_bd' z0 (show Z ≤ 101 by omega)
                by_cases hlt3 : Z ≤ M
                · by_cases he : a * X * X + b * Y * Y = Z * Z
                  · have he' : (a * X * X + b * Y * Y == Z * Z) = true := by simpa using he
                    have HE := Lib.hid (show lhs a b x y = (z : Int) * z by unfold lhs; rw [← EX.out, ← EY.out, ← EZ.out]; exact he)
                    by_cases h1 : X = 0
                    · by_cases h2 : Y = 0
                      · have h3 : Z = 0 := by
                          rw [h1, h2] at he
                          simp at he
                          rcases Int.mul_eq_zero.1 he.symm with h | h <;> exact h
                        have HC := Lib.hid (show x = 0 ∧ y = 0 by have := EX.out; have := EY.out; omega)
                        have t1 : (X != 0) = false := by simpa using h1
                        have t2 : (Y != 0) = false := by simpa using h2
                        have t3 : (Z != 0) = false := by simpa using h3
                        clear h1 h2 h3 he
                        go_wp2
                        go_round
                        case rel => exact ⟨z + 1, Z + 1, rfl, Lib.hid (by rw [EZ.out]; rfl), by omega, by omega, Lib.hid (fun j hj => .inl HC.out)⟩
                        case measure => simp [intOf]; omega
                      · have HF := Lib.hid (con_found HX.out HY.out (fun j hj => (HZ.out j hj).resolve_left (by have := EY.out; omega)) HE.out (by have := EY.out; omega) (by have := EX.out; omega) (by have := EY.out; omega) (by have := EZ.out; omega))
                        have t1 : (X != 0) = false := by simpa using h1
                        have t2 : (Y != 0) = true := by simpa using h2
                        clear h1 h2 he
                        go_wp2
                        refine bodyPost_ret (v := .tuple #[.int .i64 X, .int .i64 Y, .int .i64 Z, .int .i64 0]) (by simp [results, Try.results16, go_sem, ↓IntWalk.iteOmega]) rfl ?_
                        exact ⟨by rw [HO.out, HF.out, EX.out, EY.out, EZ.out], below_box _⟩
                    · have HF := Lib.hid (con_found HX.out HY.out (fun j hj => (HZ.out j hj).resolve_left (by have := EX.out; omega)) HE.out (by have := EX.out; omega) (by have := EX.out; omega) (by have := EY.out; omega) (by have := EZ.out; omega))
                      have t1 : (X != 0) = true := by simpa using h1
                      clear h1 he
                      go_wp2
                      refine bodyPost_ret (v := .tuple #[.int .i64 X, .int .i64 Y, .int .i64 Z, .int .i64 0]) (by simp [results, Try.results16, go_sem, ↓IntWalk.iteOmega]) rfl ?_
                      exact ⟨by rw [HO.out, HF.out, EX.out, EY.out, EZ.out], below_box _⟩
                  · have he' : (a * X * X + b * Y * Y == Z * Z) = false := by simpa using he
                    have HE := Lib.hid (show lhs a b x y ≠ (z : Int) * z by unfold lhs; rw [← EX.out, ← EY.out, ← EZ.out]; exact he)
                    clear he
                    go_wp2
                    go_round
                    case rel => exact ⟨z + 1, Z + 1, rfl, Lib.hid (by rw [EZ.out]; rfl), by omega, by omega, Lib.hid (fun j hj => by by_cases e : j = z; { subst e; exact .inr HE.out }; { exact HZ.out j (by omega) })⟩
                    case measure => simp [intOf]; omega
                · have HN := Lib.hid (show fY a b M x y = none by
                    by_cases hc : x = 0 ∧ y = 0
                    · exact fY_zero hc
                    · exact fY_none (fun j hj => (HZ.out j (by have := EZ.out; omega)).resolve_left hc))
                  clear s1 s2
                  go_wp2
                  go_round
                  case rel => exact ⟨y + 1, Y + 1, rfl, Lib.hid (by rw [EY.out]; rfl), by omega, by omega, Lib.hid (fun j hj => by by_cases e : j = y; { subst e; exact HN.out }; { exact HY.out j (by omega) })⟩
                  case measure => simp [intOf]; omega
            · have HN := Lib.hid (fX_none (show ∀ j, j < M + 1 → fY a b M x j = none by rw [show M + 1 = y by have := EY.out; omega]; exact HY.out))
              go_wp2
              go_round
              case rel => exact ⟨x + 1, X + 1, rfl, Lib.hid (by rw [EX.out]; rfl), by omega, by omega, Lib.hid (fun j hj => by by_cases e : j = x; { subst e; exact HN.out }; { exact HX.out j (by omega) })⟩
              case measure => simp [intOf]; omega
        · have HN := Lib.hid (con_none (show ∀ j, j < M + 1 → fX a b M j = none by rw [show M + 1 = x by have := EX.out; omega]; exact HX.out))
          go_wp2
          refine bodyPost_ret (v := .tuple #[.int .i64 0, .int .i64 0, .int .i64 0, .int .i64 4]) (by simp [results, Try.results16, go_sem, ↓IntWalk.iteOmega]) rfl ?_
          exact ⟨by rw [HO.out, HN.out], below_box _⟩
set_option maxRecDepth 100000 in
set_option maxHeartbeats 4000000 in
theorem impl_bad (a b m : Int) (w : World) (h : okB a b m = false) :
    Calls Try.prog 16 #[.int .i64 a, .int .i64 b, .int .i64 m] w fun e w' => e = .returned (outV a b m) ∧ Below w.heap.size w w' := by
  have HO := Lib.hid (out_bad h)
  have HK := Lib.hid h
  clear h
  by_cases ha0 : a = 0
  case pos =>
    have hza : (a == 0) = true := by simpa using ha0
    clear ha0
    go_enter Try.func16, Try.ntmps16
    go_wp2
    go_loop [19] (fun c => c = .int .i64 0) (fun c => 0)
    case atStart => rfl
    case round =>
      subst hrel
      go_wp2
      refine bodyPost_ret (v := .tuple #[.int .i64 0, .int .i64 0, .int .i64 0, .int .i64 2]) (by simp [results, Try.results16, go_sem, ↓IntWalk.iteOmega]) rfl ?_
      exact ⟨by rw [HO.out], below_box _⟩
  have hza : (a == 0) = false := by simpa using ha0
  rcases Bool.eq_false_or_eq_true (inB a (-1000000) 1000000) with ha | ha
  case inr =>
    have HA := Lib.hid ha
    clear ha ha0
    go_enter Try.func16, Try.ntmps16
    go_wp2
    go_loop [19] (fun c => c = .int .i64 0) (fun c => 0)
    case atStart => rfl
    case round =>
      subst hrel
      go_wp2_with (go_at_call 52; ((with_reducible refine (calls_bool (within_any _ _ _ _) HA.out).mono ?_); rintro e w' ⟨rfl, rfl⟩))
      refine bodyPost_ret (v := .tuple #[.int .i64 0, .int .i64 0, .int .i64 0, .int .i64 2]) (by simp [results, Try.results16, go_sem, ↓IntWalk.iteOmega]) rfl ?_
      exact ⟨by rw [HO.out], below_box _⟩
  have HA := Lib.hid ha
  by_cases hb0 : b = 0
  case pos =>
    have hzb : (b == 0) = true := by simpa using hb0
    clear ha0 hb0 ha
    go_enter Try.func16, Try.ntmps16
    go_wp2
    go_loop [19] (fun c => In2 c 1) (fun c => 2 - (intOf c).toNat)
    case atStart => exact .inl rfl
    case round =>
      rcases hrel with rfl | ⟨_, rfl⟩ | ⟨h, _⟩
      · go_wp2_with (go_at_call 52; ((with_reducible refine (calls_bool (within_any _ _ _ _) HA.out).mono ?_); rintro e w' ⟨rfl, rfl⟩))
        go_round
        case rel => exact .inr (.inl ⟨by omega, rfl⟩)
        case measure => simp [intOf]
      · go_wp2
        refine bodyPost_ret (v := .tuple #[.int .i64 0, .int .i64 0, .int .i64 0, .int .i64 2]) (by simp [results, Try.results16, go_sem, ↓IntWalk.iteOmega]) rfl ?_
        exact ⟨by rw [HO.out], below_box _⟩
      · omega
  have hzb : (b == 0) = false := by simpa using hb0
  rcases Bool.eq_false_or_eq_true (inB b (-1000000) 1000000) with hb | hb
  case inr =>
    have HB := Lib.hid hb
    clear ha0 hb0 ha hb
    go_enter Try.func16, Try.ntmps16
    go_wp2
    go_loop [19] (fun c => In2 c 1) (fun c => 2 - (intOf c).toNat)
    case atStart => exact .inl rfl
    case round =>
      rcases hrel with rfl | ⟨_, rfl⟩ | ⟨h, _⟩
      · go_wp2_with (go_at_call 52; ((with_reducible refine (calls_bool (within_any _ _ _ _) HA.out).mono ?_); rintro e w' ⟨rfl, rfl⟩))
        go_round
        case rel => exact .inr (.inl ⟨by omega, rfl⟩)
        case measure => simp [intOf]
      · go_wp2_with (go_at_call 52; ((with_reducible refine (calls_bool (within_any _ _ _ _) HB.out).mono ?_); rintro e w' ⟨rfl, rfl⟩))
        refine bodyPost_ret (v := .tuple #[.int .i64 0, .int .i64 0, .int .i64 0, .int .i64 2]) (by simp [results, Try.results16, go_sem, ↓IntWalk.iteOmega]) rfl ?_
        exact ⟨by rw [HO.out], below_box _⟩
      · omega
  have HB := Lib.hid hb
  have HM := Lib.hid (show inB m 0 100 = false by
    rw [Bool.eq_false_iff]
    intro hm
    have := HK.out
    rw [Bool.eq_false_iff] at this
    refine this ?_
    unfold okB okA
    rw [HA.out, HB.out, hm]
    simp [ha0, hb0])
  clear ha0 hb0 ha hb
  go_enter Try.func16, Try.ntmps16
  go_wp2
  go_loop [19] (fun c => In2 c 2) (fun c => 2 - (intOf c).toNat)
  case atStart => exact .inl rfl
  case round =>
    rcases hrel with rfl | ⟨_, rfl⟩ | ⟨_, rfl⟩
    · go_wp2_with (go_at_call 52; ((with_reducible refine (calls_bool (within_any _ _ _ _) HA.out).mono ?_); rintro e w' ⟨rfl, rfl⟩))
      go_round
      case rel => exact .inr (.inl ⟨by omega, rfl⟩)
      case measure => simp [intOf]
    · go_wp2_with (go_at_call 52; ((with_reducible refine (calls_bool (within_any _ _ _ _) HB.out).mono ?_); rintro e w' ⟨rfl, rfl⟩))
      go_round
      case rel => exact .inr (.inr ⟨by omega, rfl⟩)
      case measure => simp [intOf]
    · go_wp2_with (go_at_call 52; ((with_reducible refine (calls_bool (within_any _ _ _ _) HM.out).mono ?_); rintro e w' ⟨rfl, rfl⟩))
      refine bodyPost_ret (v := .tuple #[.int .i64 0, .int .i64 0, .int .i64 0, .int .i64 2]) (by simp [results, Try.results16, go_sem, ↓IntWalk.iteOmega]) rfl ?_
      exact ⟨by rw [HO.out], below_box _⟩
theorem impl_any (a b m : Int) (w : World) :
    Calls Try.prog 16 #[.int .i64 a, .int .i64 b, .int .i64 m] w fun e w' => e = .returned (outV a b m) ∧ Below w.heap.size w w' := by
  rcases Bool.eq_false_or_eq_true (okB a b m) with h | h
  · exact impl_good a b m w h
  · exact impl_bad a b m w h

theorem out_shape (a b m : Int) : ∃ x y z c : Int, outV a b m = .tuple #[.int .i64 x, .int .i64 y, .int .i64 z, .int .i64 c] := by
  unfold outV
  split
  · unfold conV
    split
    · exact ⟨_, _, _, _, rfl⟩
    · exact ⟨_, _, _, _, rfl⟩
  · exact ⟨_, _, _, _, rfl⟩
set_option maxHeartbeats 2000000 in
theorem walk (a0 : Int) (a1 : Int) (a2 : Int) (w : World) (ha0 : -9223372036854775808 ≤ a0 ∧ a0 ≤ 9223372036854775807) (ha1 : -9223372036854775808 ≤ a1 ∧ a1 ≤ 9223372036854775807) (ha2 : -9223372036854775808 ≤ a2 ∧ a2 ≤ 9223372036854775807) :
    Calls Try.prog 3 #[.int .i64 a0, .int .i64 a1, .int .i64 a2] w fun e w' => e = .returned (.bool true) ∧ Below w.heap.size w w' := by
  obtain ⟨x, y, z, c, hs⟩ := out_shape a0 a1 a2
  have H1 : ∀ w, Calls Try.prog 15 #[.int .i64 a0, .int .i64 a1, .int .i64 a2] w fun e w' => e = .returned (.tuple #[.int .i64 x, .int .i64 y, .int .i64 z, .int .i64 c]) ∧ Below w.heap.size w w' := by
    intro w; rw [← hs]; exact spec_any a0 a1 a2 w
  have H2 : ∀ w, Calls Try.prog 16 #[.int .i64 a0, .int .i64 a1, .int .i64 a2] w fun e w' => e = .returned (.tuple #[.int .i64 x, .int .i64 y, .int .i64 z, .int .i64 c]) ∧ Below w.heap.size w w' := by
    intro w; rw [← hs]; exact impl_any a0 a1 a2 w
  have K1 := Lib.hid H1
  have K2 := Lib.hid H2
  clear hs H1 H2
  have f1 : (x != x) = false := by simp
  have f2 : (y != y) = false := by simp
  have f3 : (z != z) = false := by simp
  have f4 : (c != c) = false := by simp
  go_enter Try.func3, Try.ntmps3
  go_wp2_with (go_at_call 15; with_reducible refine (K1.out _).mono ?_)
  rintro _ w1 ⟨rfl, hb1⟩
  go_wp2_with (go_at_call 16; with_reducible refine (K2.out _).mono ?_)
  rintro _ w2 ⟨rfl, hb2⟩
  go_wp2
  go_ret
  exact ⟨rfl, hb1.trans (hb2.mono hb1.size)⟩

theorem own : ownKnob Try.prog.godebug = none := by kernel_rfl
theorem laidOut : laidOutB Try.prog = true := by kernel_rfl

set_option maxRecDepth 100000 in
theorem lifted (os : Os) (started : os.Started) (H : Type) (enc : TypeId × Value → H) :
    ReturnsInHanded {} Try.checked os 3 .any (Rows.fnExactFindConicSpec.pre6 enc Try.prog Try.f3 Rows.fnExactFindConicRow.domain false) (Rows.fnExactFindConicSpec.post enc Try.prog Try.f3 false true false false) := by
  refine returnsInHanded_of_change (C := Try.checked) own started (by kernel_rfl) Try.func3
    (ChangeSpec.witness6 (enc := enc) (C := Try.checked) false ⟨#[], #[.int .i64 0, .int .i64 0, .int .i64 0], []⟩ 8 (by kernel_rfl) (by kernel_rfl) (by kernel_rfl) (by kernel_rfl)) ?_
  intro W base args ds gs before hval0 hW hcnd _
  have hval : ∀ (j : Nat) t v, Try.f3.params[j]? = some t → args[j]? = some v → Value.okWide Try.prog W .any base t v := hval0
  have hW' := hW
  obtain ⟨p, q, hA0, hV, rfl, hfz, hnd⟩ := hW
  have hA : DataW.TrodAll enc Try.prog W 0 (fun _ => true) true Try.f3.params.toList args.toList ds p := hA0
  rw [Try.params3] at hA hval
  obtain ⟨v0, vs0, d0, ds0, p0, q0, hargs, rfl, rfl, h0, r0⟩ := trodAll_cons hA
  obtain ⟨v1, vs1, d1, ds1, p1, q1, rfl, rfl, rfl, h1, r1⟩ := trodAll_cons r0
  obtain ⟨v2, vs2, d2, ds2, p2, q2, rfl, rfl, rfl, h2, r2⟩ := trodAll_cons r1
  obtain ⟨rfl, rfl, rfl⟩ := trodAll_nil r2
  obtain rfl : args = #[v0, v1, v2] := by cases args; simp_all
  obtain ⟨rfl, rfl⟩ := trodVars_none hV
  have k0 := h0
  have lt0 : ∀ x ∈ p0, x.block < W.heap.size := by obtain ⟨m, hm⟩ := k0; exact DataW.trod_lt m _ _ _ hm
  obtain ⟨a0, rfl, _, _, wf0⟩ := open_int Try.underlying2 (hval 0 2 v0 rfl rfl) h0
  have k1 := h1
  have lt1 : ∀ x ∈ p1, x.block < W.heap.size := by obtain ⟨m, hm⟩ := k1; exact DataW.trod_lt m _ _ _ hm
  obtain ⟨a1, rfl, _, _, wf1⟩ := open_int Try.underlying2 (hval 1 2 v1 rfl rfl) h1
  have k2 := h2
  have lt2 : ∀ x ∈ p2, x.block < W.heap.size := by obtain ⟨m, hm⟩ := k2; exact DataW.trod_lt m _ _ _ hm
  obtain ⟨a2, rfl, _, _, wf2⟩ := open_int Try.underlying2 (hval 2 2 v2 rfl rfl) h2
  clear hA0 hval0
  refine (walk a0 a1 a2 W (bounds_i64 wf0) (bounds_i64 wf1) (bounds_i64 wf2)).mono fun e W' ⟨he, bel⟩ => ?_
  subst he
  exact ⟨_, rfl, _, _, _, [], _, [], hW', trodAll_mk1 (shut_bool Try.underlying4 _), (trodAll_cons_mk (Below.trod laidOut (by kernel_rfl) (of_decide_eq_true (by kernel_rfl)) k0 bel lt0) (trodAll_cons_mk (Below.trod laidOut (by kernel_rfl) (of_decide_eq_true (by kernel_rfl)) k1 bel lt1) (trodAll_cons_mk (Below.trod laidOut (by kernel_rfl) (of_decide_eq_true (by kernel_rfl)) k2 bel lt2) trodAll_mk0))), rfl, bel.frame _, fun h => by cases h⟩

theorem over : Rows.fnExactFindConicRow.holds Try.pinned (OpenSpec.ofChange Rows.fnExactFindConicSpec) :=
  OpenClaim.holds_of_wide 3 Try.f3 rfl rfl rfl rfl rfl rfl rfl ⟨rfl, rfl, rfl, rfl, rfl⟩ rfl rfl rfl rfl rfl (by kernel_rfl) Try.func3 (by kernel_rfl)
    (of_decide_eq_true (by kernel_rfl)) (by unfold Func.isWrapper; first | (rw [if_pos (by decide +kernel)]; kernel_rfl) | (rw [if_neg (by decide +kernel)]; exact ⟨rfl, rfl⟩))
    (fun os started H enc _ => lifted os started H enc)

theorem proved : Rows.FnExactFindConicSaid := over
#print axioms proved
end Go.Proofs.Ytjampkjgapkklaa.findConic
