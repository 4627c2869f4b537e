/- Contracts: a shifted polynomial (some list comes back). -/
import Derived.Test.YtlndfjplhfgicaaNm
import Derived.Test.YtlndfjplhfgicaaOe
namespace Go.Proofs.Ytlndfjplhfgicaa
open Go.RowKit
set_option linter.unusedVariables false
set_option linter.unusedSimpArgs false

/-- Some new slice and a code come back. -/
def RetAnyC (w : World) (e : Ending) (w' : World) : Prop := ∃ L c v, e = .returned (.tuple #[v, .int .i64 c]) ∧ Own w' w.heap.size v L ∧ Below w.heap.size w w'
set_option maxHeartbeats 1000000 in
theorem l06Result_any {v : Value} {f : List Int} {w : World} (h : Reads w v f) : Calls Try.prog 197 #[v] w (RetAnyC w) := by
  have HA := Lib.hid h
  clear h
  go_enter Try.func197, Try.ntmps197
  go_wp2_with (go_at_call 175; with_reducible refine (l06Trim_any HA.out).mono ?_)
  rintro _ w1 ⟨v1, rfl, o1, hb1⟩
  rcases Bool.eq_false_or_eq_true (polyB (trimL f)) with hp | hp
  · have HP := Lib.hid hp
    clear hp
    go_wp2_with (go_at_call 103; ((with_reducible refine (calls_bool (sIsPolynomial_any o1.reads) HP.out).mono ?_); rintro e w' ⟨rfl, rfl⟩))
    go_ret2
    exact ⟨_, _, v1, rfl, o1, hb1⟩
  · have HP := Lib.hid hp
    clear hp
    go_wp2_with (go_at_call 103; ((with_reducible refine (calls_bool (sIsPolynomial_any o1.reads) HP.out).mono ?_); rintro e w' ⟨rfl, rfl⟩))
    go_ret2
    exact ⟨[], _, .slice none 0 0, rfl, Own.nil, hb1⟩
set_option maxHeartbeats 8000000 in
theorem ShiftPolynomial_some {v : Value} {f : List Int} {w : World} {a : Int} (h : Reads w v f) : Calls Try.prog 184 #[v, .int .i64 a] w (RetAnyC w) := by
  have HA := Lib.hid h
  clear h
  rcases Bool.eq_false_or_eq_true (polyB f) with hp | hp
  case inr =>
    have HP := Lib.hid hp
    clear hp
    go_enter Try.func184, Try.ntmps184
    go_wp2_with (go_at_call 103; ((with_reducible refine (calls_bool (sIsPolynomial_any HA.out) HP.out).mono ?_); rintro e w' ⟨rfl, rfl⟩))
    go_ret2
    exact ⟨[], _, .slice none 0 0, rfl, Own.nil, Below.refl _ _⟩
  have HP := Lib.hid hp
  obtain ⟨l9, hfb, _⟩ := polyB_bd hp
  have HBd := Lib.hid (Bd.of (show (0 : Int) ≤ 1000000000000000 by omega) (fun x hx => by have := hfb x hx; omega))
  clear hp hfb
  rcases Bool.eq_false_or_eq_true (inB a (-1000) 1000) with ha | ha
  case inr =>
    have HI := Lib.hid ha
    clear ha
    go_enter Try.func184, Try.ntmps184
    go_wp2_with (first | (go_at_call 103; ((with_reducible refine (calls_bool (sIsPolynomial_any HA.out) HP.out).mono ?_); rintro e w' ⟨rfl, rfl⟩)) | (go_at_call 74; ((with_reducible refine (calls_bool (l01In_any _ _ _ _) HI.out).mono ?_); rintro e w' ⟨rfl, rfl⟩)))
    go_ret2
    exact ⟨[], _, .slice none 0 0, rfl, Own.nil, Below.refl _ _⟩
  have HI := Lib.hid ha
  obtain ⟨a0, a1⟩ := inB_iff.1 ha
  clear ha
  go_enter Try.func184, Try.ntmps184
  go_wp2_with (first | (go_at_call 103; ((with_reducible refine (calls_bool (sIsPolynomial_any HA.out) HP.out).mono ?_); rintro e w' ⟨rfl, rfl⟩)) | (go_at_call 74; ((with_reducible refine (calls_bool (l01In_any _ _ _ _) HI.out).mono ?_); rintro e w' ⟨rfl, rfl⟩)) | (go_at_call 156; with_reducible refine (l01Own_reads HA.out).mono ?_))
  rintro _ w1 ⟨v1, rfl, o1, hb1⟩
  obtain ⟨oa, oc, rfl, k1, k2, k3⟩ := o1.shape
  obtain ⟨n, hn⟩ : ∃ n, f.length = n := ⟨_, rfl⟩
  rw [hn] at o1 k1 k3 l9 ⊢
  have HO1 := Lib.hid o1
  have HB1 := Lib.hid hb1
  have HK := Lib.hid k3
  have HN := Lib.hid hn
  clear o1 hb1 k3 hn
  go_wp2
  go_loopw [7] (fun c wr => ∃ (k : Nat) (L : List Int), c = .int .i64 (k : Int) ∧ k ≤ n ∧ L.length = n ∧ Hid (Bd 1000000000000000 L) ∧ Own wr w.heap.size (.slice oa n oc) L ∧ Below w.heap.size w wr) (fun c _ => n - (intOf c).toNat)
  case atStart => exact ⟨0, f, rfl, by omega, HN.out, HBd, HO1.out, HB1.out⟩
  case round =>
    clear HO1 HB1
    obtain ⟨k, L, rfl, hk, hL, HL, ho, hb⟩ := hrel
    have HO := Lib.hid ho
    have HB := Lib.hid hb
    clear ho hb
    by_cases hlt : k < n
    · obtain ⟨g, rfl⟩ := HK.out (by omega)
      go_wp2
      go_loopw [8] (fun c wr => ∃ (i : Int) (L : List Int), c = .int .i64 i ∧ (k : Int) - 1 ≤ i ∧ i ≤ (n : Int) - 2 ∧ L.length = n ∧ Hid (Bd 1000000000000000 L) ∧ Own wr w.heap.size (.slice (some ⟨g, 0, none⟩) n oc) L ∧ Below w.heap.size w wr) (fun c _ => (intOf c + 1).toNat)
      case atStart => exact ⟨(n : Int) - 2, L, rfl, by omega, by omega, hL, HL, HO.out, HB.out⟩
      case round =>
        clear HO HB HL hL
        obtain ⟨i, L, rfl, hi, hi2, hL, HL, ho, hb⟩ := hrel
        have HO := Lib.hid ho
        have HB := Lib.hid hb
        clear ho hb
        by_cases hik : (k : Int) ≤ i
        · obtain ⟨j, rfl⟩ : ∃ j : Nat, i = (j : Int) := ⟨i.toNat, by omega⟩
          have hj : j + 1 < n := by omega
          have c1 := HO.out.cellAt (i := j) (by omega)
          have c2 := HO.out.cellAt (i := j + 1) (by omega)
          have c3 := HO.out.frozenAt j
          have y3 := (HO.out.lt g rfl).2
          obtain ⟨b1, b2⟩ := HL.out j
          obtain ⟨b3, b4⟩ := HL.out (j + 1)
          have hm := abs_mul_le (x := a) (y := el L (j + 1)) (a := 1000) (b := 1000000000000000) ⟨a0, a1⟩ ⟨b3, b4⟩
          obtain ⟨m0, m1⟩ := hm
          obtain ⟨x, hx⟩ : ∃ x, el L j = x := ⟨_, rfl⟩
          obtain ⟨y, hy⟩ : ∃ y, el L (j + 1) = y := ⟨_, rfl⟩
          rw [hx] at c1 b1 b2
          rw [hy] at c2 b3 b4 m0 m1
          have HS := Lib.hid (HO.out.stored j (x + a * y))
          clear hx hy
          rcases Bool.eq_false_or_eq_true (inB (x + a * y) (-1000000000000000) 1000000000000000) with hin | hin
          · have HIN := Lib.hid hin
            have hxb := inB_iff.1 hin
            have HL2 := Lib.hid (show Bd 1000000000000000 (L.set j (x + a * y)) from fun q => by
              rw [el_set (by omega)]
              split
              · exact hxb
              · exact HL.out q)
            have hgl := (HO.out.lt g rfl).1
            clear hin hxb HS
            go_wp2_with (first | (go_at_call 74; ((with_reducible refine (calls_bool (l01In_any _ _ _ _) HIN.out).mono ?_); rintro e w' ⟨rfl, rfl⟩)) | (refine wp_region_wext_tail 15 (by kernel_rfl) (by kernel_rfl) ?_; simp only [List.take_succ_cons, List.take_zero, List.drop_succ_cons, List.drop_zero]; (repeat (go_big_quiet_step (first | (go_at_call 74; with_reducible refine calls_wext_same (calls_bool (l01In_any _ _ _ _) HIN.out))))); refine wpQuiet_nil ?_; intro w1_hbq hbq; replace hbq := below_of_wext hbq; obtain ⟨chbq, fhbq, shbq⟩ := bfacts2 hbq; (try simp at shbq)) | (refine wp_region_wext (by kernel_rfl) (by kernel_rfl) ?_; (repeat (go_big_quiet_step (first | (go_at_call 74; with_reducible refine calls_wext_same (calls_bool (l01In_any _ _ _ _) HIN.out))))); refine wpQuiet_nil ?_; intro w1_hbq hbq; replace hbq := below_of_wext hbq; obtain ⟨chbq, fhbq, shbq⟩ := bfacts2 hbq; (try simp at shbq)))
            obtain ⟨g1, g2⟩ := (HO.out.step hbq).stored j (x + a * y)
            go_roundw
            case rel => exact ⟨(j : Int) - 1, L.set j (x + a * y), rfl, by omega, by omega, by rw [List.length_set]; exact hL, HL2, g1, (HB.out.trans (hbq.mono HB.out.size)).setCell hgl _⟩
            case measure => simp [intOf]
          · have HIN := Lib.hid hin
            have hgl := (HO.out.lt g rfl).1
            clear hin HS
            go_wp2_with (first | (go_at_call 74; ((with_reducible refine (calls_bool (l01In_any _ _ _ _) HIN.out).mono ?_); rintro e w' ⟨rfl, rfl⟩)) | (refine wp_region_wext_tail 15 (by kernel_rfl) (by kernel_rfl) ?_; simp only [List.take_succ_cons, List.take_zero, List.drop_succ_cons, List.drop_zero]; (repeat (go_big_quiet_step (first | (go_at_call 74; with_reducible refine calls_wext_same (calls_bool (l01In_any _ _ _ _) HIN.out))))); refine wpQuiet_nil ?_; intro w1_hbq hbq; replace hbq := below_of_wext hbq; obtain ⟨chbq, fhbq, shbq⟩ := bfacts2 hbq; (try simp at shbq)) | (refine wp_region_wext (by kernel_rfl) (by kernel_rfl) ?_; (repeat (go_big_quiet_step (first | (go_at_call 74; with_reducible refine calls_wext_same (calls_bool (l01In_any _ _ _ _) HIN.out))))); refine wpQuiet_nil ?_; intro w1_hbq hbq; replace hbq := below_of_wext hbq; obtain ⟨chbq, fhbq, shbq⟩ := bfacts2 hbq; (try simp at shbq)))
            go_ret2
            exact ⟨[], _, .slice none 0 0, rfl, Own.nil, (HB.out.trans (hbq.mono HB.out.size)).setCell hgl _⟩
        · have hL2 := Lib.hid hL
          go_wp2
          go_roundw
          case rel => exact ⟨k + 1, L, by go_num, by omega, hL, HL, HO.out, HB.out⟩
          case measure => simp [intOf]; omega
    · obtain rfl : k = n := by omega
      go_wp2_with (go_at_call 197; with_reducible refine (l06Result_any HO.out.reads).mono ?_)
      rintro _ w2 ⟨R, c, v2, rfl, o2, hb2⟩
      go_wp2
      go_ret2
      exact ⟨R, c, v2, rfl, o2.mono HB.out.size, HB.out.trans (hb2.mono HB.out.size)⟩

end Go.Proofs.Ytlndfjplhfgicaa
