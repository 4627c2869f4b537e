/- Contracts: both PermutationText. -/
import Derived.Test.YtcecmjnbhppocaaDoorSd
namespace Go.Proofs.YtcecmjnbhppocaaDoor
open Go.RowKit
set_option linter.unusedVariables false
set_option linter.unusedSimpArgs false
set_option maxRecDepth 100000

set_option maxHeartbeats 4000000 in
theorem permutationText_any {v : Value} {zs : List Int} {w : World} (h : Reads w v zs) (hp : permB zs = true) (hmx : ∃ mx, w.cell? ⟨0, 0, none⟩ = some (.int .i64 mx)) :
    Calls Tryd.prog 21 #[v] w fun e w' => e = .returned (.string (bs (txtL zs))) ∧ Below w.heap.size w w' := by
  have HR := Lib.hid h
  obtain ⟨mx, hmx⟩ := hmx
  have h00 : 0 < w.heap.size := World.block_lt_of_cell? _ _ hmx
  have HMX := Lib.hid hmx
  obtain ⟨hc6, hrow⟩ := cyc_small hp
  have HRW := Lib.hid hrow
  have hn6 := (permB_bd hp).2.1
  have HB := Lib.hid (bodN_len (fun i hi => (hrow i hi).1))
  have HP := Lib.hid hp
  obtain ⟨hL, a, cap, rfl, hcap, hmax, _⟩ := h
  have HTX := Lib.hid (show txtL zs = dg zs.length ++ 58 :: (if bodN (cycL zs) (cycL zs).length = [] then [40, 41] else bodN (cycL zs) (cycL zs).length) from rfl)
  clear hp hrow hmx
  go_enter Tryd.func21, Tryd.ntmps21
  rw [bs_0, bs_32, bs_40, bs_41, bs_44, bs_4041, bs_58]
  have BSZ := bs_size
  have BAD := bs_add
  go_wp2_with (go_at_call 41; with_reducible refine (cycles_any HR.out HP.out).mono ?_)
  rintro _ w1 ⟨v1, rfl, o1, hb1⟩
  obtain ⟨us, a1, c1, rfl, hcap1, hmax1, hg, hv, hf⟩ := o1.parts
  have HG := Lib.hid hg
  have HV := Lib.hid hv
  have HF := Lib.hid hf
  have HB1 := Lib.hid hb1
  have hs1 := hb1.size
  clear o1 hg hv hf hb1
  generalize cycL zs = Z at *
  obtain ⟨n, hn⟩ : ∃ n, Z.length = n := ⟨_, rfl⟩
  obtain ⟨N, hN⟩ : ∃ N, zs.length = N := ⟨_, rfl⟩
  rw [hn] at HG HB HRW hc6 hcap1 HTX ⊢
  rw [hN] at HTX hn6 HR ⊢
  have HN := Lib.hid hn
  have HNN := Lib.hid hN
  have hN1 : 0 ≤ (N : Int) ∧ (N : Int) ≤ 9 := by omega
  clear hn hN
  go_wp2
  go_loopw [9, 3] (fun c d wr => ∃ i : Nat, c = .int .i64 (i : Int) ∧ i ≤ n ∧ d = .string (bs (bodN Z i)) ∧ Below w1.heap.size w1 wr) (fun c _ _ => n - (intOf c).toNat)
  case atStart => exact ⟨0, rfl, by omega, rfl, Below.refl _ _⟩
  case round =>
    obtain ⟨i, rfl, hi, rfl, hbel⟩ := hrel
    have HW := Lib.hid hbel
    have hsw := hbel.size
    have hbl := HB.out i hi
    clear hbel
    by_cases hlt : i < n
    · obtain ⟨g, rfl, g1, _, _⟩ := HG.out (by omega)
      have f1 : wr.cell? ⟨g, i, none⟩ = some (at_ us i) := by rw [HW.out.cell (p := ⟨g, i, none⟩) g1]; exact HV.out.cellAt (at_get (by have := HF.out.len; have := HN.out; omega))
      have hru := ((HF.out.own i (by rw [HN.out]; exact hlt)).reads).step HW.out
      obtain ⟨r1, r2⟩ := HRW.out i hlt
      have HR2 := Lib.hid r2
      have HNX := Lib.hid (show bodN Z (i + 1) = if 1 < (row Z i).length then bodN Z i ++ 40 :: (jnN (row Z i) (row Z i).length ++ [41]) else bodN Z i from rfl)
      generalize row Z i = G at *
      have HRG := Lib.hid hru
      obtain ⟨_, a2, c2, e2, _, _, _⟩ := hru
      rw [e2] at f1
      have HRG2 := Lib.hid (show Reads wr (.slice a2 G.length c2) G by rw [← e2]; exact HRG.out)
      have hjl := jnN_len G G.length
      clear r2 e2
      by_cases hgl : 1 < G.length
      · have hgi : (1 : Int) < (G.length : Int) := by omega
        have hcl := comB_len G (by omega)
        have HCJ := Lib.hid (com_jn (by omega) HR2.out)
        go_wp2_with (go_at_call 43; with_reducible refine (commas_small HRG2.out (by omega) (by omega) HR2.out).mono ?_)
        rintro _ w2 ⟨rfl, hb2⟩
        have hb02 := HB1.out.trans ((HW.out.trans (hb2.mono hsw)).mono hs1)
        have hm2 := (hb02.cell (p := ⟨0, 0, none⟩) h00).trans HMX.out
        have hs2 := hb2.size
        have HM2 := Lib.hid hm2
        clear hm2 hb02
        go_wp2_with (go_at_call 42; with_reducible refine (replaceAll_own HM2.out (by omega)).mono ?_)
        rintro _ w3 ⟨rfl, hb3⟩
        rw [HCJ.out]
        go_wp2
        go_roundw
        case rel => exact ⟨i + 1, by go_num, by omega, by rw [HNX.out, if_pos hgl], HW.out.trans ((hb2.trans (hb3.mono hs2)).mono hsw)⟩
        case measure => simp [intOf]; omega
      · have hgi : ¬ (1 : Int) < (G.length : Int) := by omega
        go_wp2
        go_roundw
        case rel => exact ⟨i + 1, by go_num, by omega, by rw [HNX.out, if_neg hgl], HW.out⟩
        case measure => simp [intOf]; omega
    · obtain rfl : i = n := by omega
      have hdl : (dg (N : Int)).length = 1 := rfl
      have HRW2 := Lib.hid ((HR.out.step HB1.out).step HW.out)
      have HSZ := Lib.hid (show (zs.length : Int) = (N : Int) by rw [HNN.out])
      by_cases hbe : bodN Z i = []
      · have hbq : ((bs (bodN Z i)).toList == (bs []).toList) = true := by rw [hbe]; simp
        have HBE := Lib.hid hbe
        clear hbe
        go_wp2_with (first | (go_at_call 39; ((with_reducible refine (calls_int (size_int64_any HRW2.out) HSZ.out).mono ?_); rintro e w' ⟨rfl, rfl⟩)) | (go_at_call 44; with_reducible refine (decimal_small hN1 _).mono ?_))
        rintro _ w2 ⟨rfl, rfl⟩
        go_wp2
        go_ret
        exact ⟨by rw [HTX.out, if_pos HBE.out]; rfl, HB1.out.trans (HW.out.mono hs1)⟩
      · have hbq : ((bs (bodN Z i)).toList == (bs []).toList) = false := by
          rw [bs_list, bs_list]
          simpa using hbe
        have HBE := Lib.hid hbe
        clear hbe
        go_wp2_with (first | (go_at_call 39; ((with_reducible refine (calls_int (size_int64_any HRW2.out) HSZ.out).mono ?_); rintro e w' ⟨rfl, rfl⟩)) | (go_at_call 44; with_reducible refine (decimal_small hN1 _).mono ?_))
        rintro _ w2 ⟨rfl, rfl⟩
        go_wp2
        go_ret
        exact ⟨by rw [HTX.out, if_neg HBE.out]; rfl, HB1.out.trans (HW.out.mono hs1)⟩

/-! ### both PermutationText -/
def ptC (zs : List Int) : Int := if permB zs then 0 else 1
def ptT (zs : List Int) : List UInt8 := if permB zs then txtL zs else []
theorem PermutationText_any {v : Value} {zs : List Int} {w : World} (h : Reads w v zs) (hmx : ∃ mx, w.cell? ⟨0, 0, none⟩ = some (.int .i64 mx)) :
    Calls Tryd.prog 8 #[v] w fun e w' => e = .returned (.tuple #[.string (bs (ptT zs)), .int .i64 (ptC zs)]) ∧ Below w.heap.size w w' := by
  have HR := Lib.hid h
  have HM := Lib.hid hmx
  clear h hmx
  rcases Bool.eq_false_or_eq_true (permB zs) with hp | hp
  · have HP := Lib.hid hp
    clear hp
    go_enter Tryd.func8, Tryd.ntmps8
    go_wp2_with (first | (go_at_call 20; ((with_reducible refine (calls_bool (IsPermutation_any HR.out) HP.out).mono ?_); rintro e w' ⟨rfl, rfl⟩)) | (go_at_call 21; with_reducible refine (permutationText_any HR.out HP.out HM.out).mono ?_))
    rintro _ w2 ⟨rfl, hb2⟩
    go_wp2
    go_ret2
    exact ⟨by simp [ptT, ptC, HP.out], hb2⟩
  · have HP := Lib.hid hp
    clear hp
    go_enter Tryd.func8, Tryd.ntmps8
    go_wp2_with (first | (go_at_call 20; ((with_reducible refine (calls_bool (IsPermutation_any HR.out) HP.out).mono ?_); rintro e w' ⟨rfl, rfl⟩)))
    go_ret2
    exact ⟨by simp [ptT, ptC, HP.out, bs], Below.refl _ _⟩
theorem sPermutationText_any {v : Value} {zs : List Int} {w : World} (h : Reads w v zs) :
    Calls Tryd.prog 6 #[v] w fun e w' => e = .returned (.tuple #[.string (bs (ptT zs)), .int .i64 (ptC zs)]) ∧ Below w.heap.size w w' := by
  have HR := Lib.hid h
  clear h
  rcases Bool.eq_false_or_eq_true (permB zs) with hp | hp
  · have HP := Lib.hid hp
    clear hp
    go_enter Tryd.func6, Tryd.ntmps6
    go_wp2_with (go_at_call 18; with_reducible refine (sIsPermutation_any HR.out).mono ?_)
    rintro _ w1 ⟨rfl, hb1⟩
    rw [HP.out]
    have HB1 := Lib.hid hb1
    clear hb1
    go_wp2_with (go_at_call 19; with_reducible refine (l21Text_any (HR.out.step HB1.out) HP.out).mono ?_)
    rintro _ w2 ⟨rfl, hb2⟩
    go_wp2
    go_ret2
    exact ⟨by simp [ptT, ptC, HP.out], HB1.out.trans (hb2.mono HB1.out.size)⟩
  · have HP := Lib.hid hp
    clear hp
    go_enter Tryd.func6, Tryd.ntmps6
    go_wp2_with (go_at_call 18; with_reducible refine (sIsPermutation_any HR.out).mono ?_)
    rintro _ w1 ⟨rfl, hb1⟩
    rw [HP.out]
    have HB1 := Lib.hid hb1
    clear hb1
    go_wp2
    go_ret2
    exact ⟨by simp [ptT, ptC, HP.out, bs], HB1.out⟩
/-- The library's own variable is still there. -/
theorem max_below {w w' : World} (h : ∃ mx, w.cell? ⟨0, 0, none⟩ = some (.int .i64 mx)) (hb : Below w.heap.size w w') : ∃ mx, w'.cell? ⟨0, 0, none⟩ = some (.int .i64 mx) := by
  obtain ⟨mx, h⟩ := h
  exact ⟨mx, (hb.cell (p := ⟨0, 0, none⟩) (World.block_lt_of_cell? _ _ h)).trans h⟩

end Go.Proofs.YtcecmjnbhppocaaDoor
