/- Contracts: the divisors of a number. -/
import Derived.Test.YtlndfjplhfgicaaDa
import Derived.Test.YtlndfjplhfgicaaJ
import Derived.Test.YtlndfjplhfgicaaFb
namespace Go.Proofs.Ytlndfjplhfgicaa
open Go.RowKit
set_option linter.unusedVariables false
set_option linter.unusedSimpArgs false

theorem rawW_snoc (L : List (Int × Int)) (x : Int × Int) (ds : List Int) : rawW (L ++ [x]) ds = crossL x.1 x.2.toNat (rawW L ds) := by simp [rawW]
theorem pw_take {L : List (Int × Int)} {i : Nat} (h : i < L.length) : L.take (i + 1) = L.take i ++ [pw L i] := by
  rw [List.take_add_one, List.getElem?_eq_getElem h]
  simp [pw, List.getD_eq_getElem?_getD, List.getElem?_eq_getElem h]
theorem prodF_append (L M : List (Int × Int)) : prodF (L ++ M) = prodF L * prodF M := by
  induction L with
  | nil => simp [prodF]
  | cons x L ih => show x.1 ^ x.2.toNat * prodF (L ++ M) = x.1 ^ x.2.toNat * prodF L * prodF M; rw [ih, Int.mul_assoc]
theorem pre_divs {n : Int} (hn : 1 ≤ n) (i : Nat) : Divs (prodF ((factL n).take i)) (rawW ((factL n).take i) [1]) ∧ prodF ((factL n).take i) ∣ n ∧ 1 ≤ prodF ((factL n).take i) := by
  have h1 : Divs 1 [1] := ⟨by simp, fun d => by
    simp
    constructor
    · rintro rfl; exact ⟨Int.le_refl _, Int.dvd_refl _⟩
    · rintro ⟨a, b⟩; have := Int.le_of_dvd (by omega) b; omega⟩
  have hg : ∀ x ∈ (factL n).take i, primeB x.1 = true := fun x hx => (factL_good hn x (List.mem_of_mem_take hx)).1
  have := divs_all ((factL n).take i) 1 [1] h1 (by omega) hg (fun x hx => by
    have := (primeB_iff.1 (hg x hx)).1
    rw [Int.emod_eq_of_lt (by omega) (by omega)]; omega) ((factL_rise hn).sublist (List.take_sublist _ _))
  rw [Int.one_mul] at this
  refine ⟨this, ⟨prodF ((factL n).drop i), ?_⟩, prodF_pos _ hg⟩
  rw [← prodF_append, List.take_append_drop, factL_prod hn]
theorem divU_len (n : Int) : ∀ k, (divU n k).length ≤ k
  | 0 => Nat.le_refl _
  | k + 1 => by
    have := divU_len n k
    rw [divU]; split
    · simp; omega
    · omega
theorem divs_len {N : Int} {ds : List Int} (hN : 1 ≤ N) (h : Divs N ds) : ds.length ≤ N.toNat := by
  have hp : ds.Perm (divU N N.toNat) := by
    rw [List.perm_ext_iff_of_nodup h.nodup ((divU_rise N N.toNat).imp (fun h => by omega))]
    intro d
    rw [h.mem, divU_mem]
    constructor
    · rintro ⟨a, b⟩
      have := Int.le_of_dvd (by omega) b
      exact ⟨a, by omega, mod_dvd.2 b⟩
    · rintro ⟨a, b, c⟩
      exact ⟨a, mod_dvd.1 c⟩
  rw [hp.length_eq]
  exact divU_len N N.toNat
theorem raw_num {n : Int} (hn : 1 ≤ n) {i : Nat} (hi : i < (factL n).length) {d : Int} (hd : d ∈ rawW ((factL n).take i) [1]) {e : Nat} (he : e ≤ (pw (factL n) i).2.toNat) :
    (1 ≤ d ∧ d ≤ n) ∧ (1 ≤ (pw (factL n) i).1 ^ e ∧ (pw (factL n) i).1 ^ e ≤ n) ∧ (1 ≤ d * (pw (factL n) i).1 ^ e ∧ d * (pw (factL n) i).1 ^ e ≤ n) := by
  obtain ⟨h1, h2, h3⟩ := pre_divs hn i
  obtain ⟨g1, g2, g3⟩ := pre_divs hn (i + 1)
  obtain ⟨d1, d2⟩ := (h1.mem d).1 hd
  have hp := (primeB_iff.1 (factL_good hn _ (pw_mem hi)).1).1
  have hpe := pow_pos' (show 1 ≤ (pw (factL n) i).1 by omega) e
  have hm : d * (pw (factL n) i).1 ^ e ∈ rawW ((factL n).take (i + 1)) [1] := by
    rw [pw_take hi, rawW_snoc, crossL, List.mem_flatMap]
    exact ⟨d, hd, List.mem_map.2 ⟨e, by simp; omega, rfl⟩⟩
  obtain ⟨m1, m2⟩ := (g1.mem _).1 hm
  have m3 := Int.le_of_dvd (by omega) (Int.dvd_trans m2 g2)
  have m4 := Int.le_of_dvd (by omega) (Int.dvd_trans d2 h2)
  have m5 := Int.mul_le_mul_of_nonneg_right d1 (show 0 ≤ (pw (factL n) i).1 ^ e by omega)
  exact ⟨⟨d1, m4⟩, ⟨hpe, by omega⟩, m1, m3⟩
theorem crossL_len (p : Int) (k : Nat) : ∀ ds : List Int, (crossL p k ds).length = ds.length * (k + 1)
  | [] => by simp [crossL]
  | d :: ds => by
    have ih := crossL_len p k ds
    have : crossL p k (d :: ds) = ((List.range (k + 1)).map fun e : Nat => d * p ^ e) ++ crossL p k ds := by simp [crossL]
    rw [this, List.length_append, ih]
    simp [Nat.add_mul]; omega
theorem crossL_snoc (p : Int) (k : Nat) (ds : List Int) (d : Int) : crossL p k (ds ++ [d]) = crossL p k ds ++ (List.range (k + 1)).map fun e : Nat => d * p ^ e := by simp [crossL]
theorem range_next (d p : Int) (e : Nat) : ((List.range e).map fun e : Nat => d * p ^ e) ++ [d * p ^ e] = (List.range (e + 1)).map fun e : Nat => d * p ^ e := by
  rw [List.range_succ]; simp
theorem take_el {l : List Int} {k : Nat} (h : k < l.length) : l.take (k + 1) = l.take k ++ [el l k] := by rw [List.take_add_one, el_get h]; rfl
theorem own_oneI (w : World) (x : Int) : Own (w.alloc (.cells #[.int .i64 x] 2)) w.heap.size (.slice (some ⟨w.heap.size, 0, none⟩) 1 1) [x] := by
  refine ⟨by simp, by simp, .inr ⟨w.heap.size, 1, #[.int .i64 x], rfl, Nat.le_refl _, ?_, by simp, by simp [maxLen], by simp, by simp⟩⟩
  show (w.heap.push _)[w.heap.size]? = _
  simp
theorem box_in {w w1 : World} {x y : Value} {t : TypeId} (hb : Below (w.heap.size + 1) (w.alloc (.cells #[x, y] t)) w1) : w1.cell? ⟨w.heap.size, 0, none⟩ = some x ∧ w1.cell? ⟨w.heap.size, 1, none⟩ = some y := by
  constructor
  · rw [hb.cell (p := ⟨w.heap.size, 0, none⟩) (by simp)]; simp
  · rw [hb.cell (p := ⟨w.heap.size, 1, none⟩) (by simp)]; simp
theorem reads_shape {w : World} {v : Value} {zs : List Int} (h : Reads w v zs) : ∃ a cap, v = .slice a zs.length cap := by
  obtain ⟨a, cap, h1, _⟩ := h.2; exact ⟨a, cap, h1⟩
theorem Reads.cellOf {w : World} {a : Option Addr} {n cap : Nat} {zs : List Int} (h : Reads w (.slice a n cap) zs) {k : Nat} (hk : k < zs.length) : ∃ b o, a = some ⟨b, o, none⟩ ∧ w.cell? ⟨b, o + k, none⟩ = some (.int .i64 (el zs k)) := by
  obtain ⟨_, a', cap', hv, _, _, hc⟩ := h
  injection hv with e1 _ _
  subst e1
  obtain ⟨b, o, rfl, _, h5⟩ := hc (by omega)
  exact ⟨b, o, rfl, h5 k hk⟩

set_option maxHeartbeats 8000000 in
set_option maxRecDepth 100000 in
theorem divisors_any (n : Int) (w : World) (hn : 1 ≤ n) (hn2 : n ≤ 1000000) :
    Calls Try.prog 76 #[.int .i64 n] w (RetInts (divU n n.toNat) w) := by
  have hT := Lib.hid (sorted_raw hn)
  have HO1 := Lib.hid (own_oneI w 1)
  go_enter Try.func76, Try.ntmps76
  go_wp2_with (go_at_call 79; with_reducible refine (factors_any n _ hn hn2).mono ?_)
  rintro _ w1 ⟨v1, rfl, hown, hb1⟩
  obtain ⟨p1, p2, rfl, p3, p4, hq⟩ := hown.parts
  have HP := Lib.hid hq
  have HL1 := Lib.hid (HO1.out.step hb1)
  have HB1 := Lib.hid (show Below w.heap.size w w1 from (below_box _).trans (hb1.mono (by simp)))
  have hmax : (factL n).length ≤ 9223372036854775807 := by unfold maxLen at p4; omega
  clear hown hb1 hq HO1
  go_wp2
  go_loopw [3, 14] (fun l c wr => ∃ i : Nat, c = .int .i64 (i : Int) ∧ i ≤ (factL n).length ∧ Own wr w.heap.size l (rawW ((factL n).take i) [1]) ∧ Below w.heap.size w wr ∧ Below w1.heap.size w1 wr) (fun _ c _ => (factL n).length - (intOf c).toNat)
  case atStart => exact ⟨0, rfl, by omega, HL1.out, HB1.out, Below.refl _ _⟩
  case round =>
    clear HL1 HB1
    obtain ⟨i, rfl, hi, hown, hbel, hbel1⟩ := hrel
    have HO := Lib.hid hown
    have HB := Lib.hid hbel
    have HB1 := Lib.hid hbel1
    clear hown hbel hbel1
    by_cases hlt : i < (factL n).length
    · obtain ⟨g, rfl, hg, hgw, hc⟩ := HP.out (by omega)
      obtain ⟨d1, d2⟩ := hc i hlt
      rw [← HB1.out.cell (p := ⟨g, i * 2, none⟩) hgw] at d1
      rw [← HB1.out.cell (p := ⟨g, i * 2 + 1, none⟩) hgw] at d2
      obtain ⟨p5, p6, p7, p8, p9⟩ := factL_good hn _ (pw_mem hlt)
      have p5' := (primeB_iff.1 p5).1
      have HN := Lib.hid (show rawW ((factL n).take (i + 1)) [1] = crossL (pw (factL n) i).1 (pw (factL n) i).2.toNat (rawW ((factL n).take i) [1]) by rw [pw_take hlt, rawW_snoc])
      have HNUM := Lib.hid (fun (d : Int) (hd : d ∈ rawW ((factL n).take i) [1]) (e : Nat) (he : e ≤ (pw (factL n) i).2.toNat) => raw_num hn hlt hd he)
      have hlen1 := divs_len (pre_divs hn i).2.2 (pre_divs hn i).1
      have hlen2 := Int.le_of_dvd (show 0 < n by omega) (pre_divs hn i).2.1
      obtain ⟨ds, hds⟩ : ∃ ds, rawW ((factL n).take i) [1] = ds := ⟨_, rfl⟩
      obtain ⟨q, hqe⟩ : ∃ q, (pw (factL n) i).1 = q := ⟨_, rfl⟩
      obtain ⟨k, hke⟩ : ∃ k, (pw (factL n) i).2 = k := ⟨_, rfl⟩
      rw [hds] at HO HN HNUM hlen1
      rw [hqe] at d1 HN HNUM p5'
      rw [hke] at d2 HN HNUM p8 p9
      have hdl : ds.length ≤ 1000000 := by omega
      clear hc hds hqe hke hlen1 hlen2 p5 p6 p7
      obtain ⟨la, lc, lv⟩ := reads_shape HO.out.reads
      subst lv
      obtain ⟨dl, hdle⟩ : ∃ dl, ds.length = dl := ⟨_, rfl⟩
      rw [hdle] at hdl HO ⊢
      have HDL := Lib.hid hdle
      clear hdle
      obtain ⟨B0, hB0⟩ : ∃ B0, wr.heap.size = B0 := ⟨_, rfl⟩
      obtain ⟨W, hW⟩ : ∃ W, wr.alloc (.cells #[.int .i64 q, .int .i64 k] 39) = W := ⟨_, rfl⟩
      have HXW := Lib.hid (fun (w1 : World) (hb : Below (B0 + 1) W w1) => show w1.cell? ⟨B0, 0, none⟩ = some (.int .i64 q) ∧ w1.cell? ⟨B0, 1, none⟩ = some (.int .i64 k) from by subst hW; subst hB0; exact box_in hb)
      have HRL := Lib.hid (fun (w1 : World) (hb : Below (B0 + 1) W w1) => show Reads w1 (.slice la dl lc) ds from by subst hW; subst hB0; exact (HO.out.reads.step (below_box _)).below hb (by simp))
      have HWW := Lib.hid (show Below B0 wr W by subst hW; subst hB0; exact below_box _)
      have hWs : W.heap.size = B0 + 1 := by subst hW; subst hB0; simp
      have HWE := Lib.hid hW
      have HB0 := Lib.hid hB0
      clear hW
      go_wp2
      go_loopw [6, 20] (fun m c wr2 => ∃ j : Nat, c = .int .i64 (j : Int) ∧ j ≤ dl ∧ Own wr2 (B0 + 1) m (crossL q k.toNat (ds.take j)) ∧ Below (B0 + 1) W wr2) (fun _ c _ => dl - (intOf c).toNat)
      case atStart => exact ⟨0, rfl, by omega, by simpa [crossL] using Own.nil, by rw [HWE.out]; exact Below.refl _ _⟩
      case round =>
        obtain ⟨j, rfl, hj, hm, hbj⟩ := hrel
        have HM := Lib.hid hm
        have HJ := Lib.hid hbj
        have hsj := hbj.size
        clear hm hbj
        by_cases hlt2 : j < dl
        · obtain ⟨b3, o3, e3, hc3⟩ := (HRL.out _ HJ.out).cellOf (k := j) (by rw [HDL.out]; exact hlt2)
          subst e3
          have hmem : el ds j ∈ ds := el_mem (by rw [HDL.out]; exact hlt2)
          have HNJ := Lib.hid (fun e he => HNUM.out (el ds j) hmem e he)
          have HTJ := Lib.hid (show ds.take (j + 1) = ds.take j ++ [el ds j] from take_el (by rw [HDL.out]; exact hlt2))
          have hlj : (crossL q k.toNat (ds.take j)).length ≤ 1000000 * 1000001 := by
            rw [crossL_len, List.length_take]
            exact Nat.mul_le_mul (by omega) (by omega)
          clear hmem
          go_wp2
          go_loopw [6, 9] (fun m c wr3 => ∃ e : Nat, c = .int .i64 (e : Int) ∧ e ≤ k.toNat + 1 ∧ Own wr3 (B0 + 1) m (crossL q k.toNat (ds.take j) ++ (List.range e).map fun e : Nat => el ds j * q ^ e) ∧ Below (B0 + 1) W wr3) (fun _ c _ => k.toNat + 1 - (intOf c).toNat)
          case atStart => exact ⟨0, rfl, by omega, by simpa using HM.out, HJ.out⟩
          case round =>
            clear HM HJ hsj hc3
            obtain ⟨e, rfl, he, hm, hbj⟩ := hrel
            have HM := Lib.hid hm
            have HJ := Lib.hid hbj
            have hsj := hbj.size
            clear hm hbj
            obtain ⟨x1, x2⟩ := HXW.out _ HJ.out
            by_cases hlt3 : e ≤ k.toNat
            · obtain ⟨⟨m1, m2⟩, ⟨m3, m4⟩, m5, m6⟩ := HNJ.out e hlt3
              have hle : (e : Int) ≤ k := by omega
              have hl3 : (crossL q k.toNat (ds.take j) ++ (List.range e).map fun e : Nat => el ds j * q ^ e).length + 1 ≤ 1099511627776 := by
                rw [List.length_append, List.length_map, List.length_range]; omega
              go_wp2_with (first | (go_at_call 143; ((with_reducible refine (power_any q (e : Int) _ (by omega) (by rw [Int.toNat_natCast]; omega) (by rw [Int.toNat_natCast]; omega)).mono ?_); rintro e w' ⟨rfl, rfl⟩)) | (at_builtin; refine append_one _ rfl _ _ rfl rfl HM.out hl3 (by omega) rfl ?_))
              intro vv w3 hown1 hbel1
              have HO3 := Lib.hid (show Own w3 (B0 + 1) vv (crossL q k.toNat (ds.take j) ++ (List.range (e + 1)).map fun e : Nat => el ds j * q ^ e) by rw [← range_next]; first | exact hown1 | simpa using hown1)
              have HJ3 := Lib.hid (HJ.out.trans hbel1)
              clear hown1 hbel1
              go_wp2
              go_roundw
              case rel => exact ⟨e + 1, by go_num, by omega, HO3.out, HJ3.out⟩
              case measure => simp [intOf]; omega
            · obtain rfl : e = k.toNat + 1 := by omega
              have hgt : k < ((k.toNat + 1 : Nat) : Int) := by omega
              have HO3 := Lib.hid (show Own wr (B0 + 1) u6 (crossL q k.toNat (ds.take (j + 1))) by rw [HTJ.out, crossL_snoc]; exact HM.out)
              go_wp2
              go_roundw
              case rel => exact ⟨j + 1, by go_num, by omega, HO3.out, HJ.out⟩
              case measure => simp [intOf]; omega
        · have hjd : ds.take j = ds := List.take_of_length_le (by rw [HDL.out]; omega)
          rw [hjd] at HM
          have HF := Lib.hid (show Own wr w.heap.size u6 (rawW ((factL n).take (i + 1)) [1]) by rw [HN.out]; exact HM.out.mono (by have := HB.out.size; have := HB0.out; omega))
          have HW0 := Lib.hid (HWW.out.trans (HJ.out.mono (by omega)))
          clear hjd
          go_wp2
          go_roundw
          case rel => exact ⟨i + 1, by go_num, by omega, HF.out, HB.out.trans (HW0.out.mono (by have := HB.out.size; have := HB0.out; omega)), HB1.out.trans (HW0.out.mono (by have := HB1.out.size; have := HB0.out; omega))⟩
          case measure => simp [intOf]; omega
    · have hti : (factL n).take i = factL n := List.take_of_length_le (by omega)
      have HE := Lib.hid (show rawW ((factL n).take i) [1] = rawD n by rw [hti]; rfl)
      clear hti
      go_wp2_with (go_at_call 144; with_reducible refine (sort_own HO.out).mono ?_)
      rintro _ w2 ⟨rfl, o2, hg2⟩
      have HO2 := Lib.hid (show Own w2 w.heap.size u3 (divU n n.toNat) by rw [HE.out, hT.out] at o2; exact o2)
      have HB2 := Lib.hid (HB.out.grown hg2 HB.out.size (fun k hk => (HO.out.lt k hk).1))
      go_wp2
      go_ret
      exact ⟨_, rfl, HO2.out, HB2.out⟩

/-! ### DivisorsOf -/
def dofC (n : Int) : Int := if inB n 1 1000000 then if (divU n n.toNat).length ≤ 60 then 0 else 3 else 2
def dofL (n : Int) : List Int := if dofC n = 0 then divU n n.toNat else []
theorem dof_ways (n : Int) : (inB n 1 1000000 = false ∧ dofC n = 2) ∨ (inB n 1 1000000 = true ∧ (1 ≤ n ∧ n ≤ 1000000) ∧ (((divU n n.toNat).length ≤ 60 ∧ dofC n = 0) ∨ (60 < (divU n n.toNat).length ∧ dofC n = 3))) := by
  rcases Bool.eq_false_or_eq_true (inB n 1 1000000) with h | h
  · right
    refine ⟨h, inB_iff.1 h, ?_⟩
    by_cases h2 : (divU n n.toNat).length ≤ 60
    · exact .inl ⟨h2, by rw [dofC, if_pos h, if_pos h2]⟩
    · exact .inr ⟨by omega, by rw [dofC, if_pos h, if_neg h2]⟩
  · exact .inl ⟨h, by rw [dofC, if_neg (by rw [h]; simp)]⟩
set_option maxHeartbeats 1000000 in
theorem DivisorsOf_any (n : Int) (w : World) : Calls Try.prog 14 #[.int .i64 n] w (RetIC (dofL n) (dofC n) w) := by
  rcases dof_ways n with ⟨h, hc⟩ | ⟨h, ⟨n1, n2⟩, ⟨hl, hc⟩ | ⟨hl, hc⟩⟩
  · have H := Lib.hid h
    have HC := Lib.hid hc
    clear h hc
    go_enter Try.func14, Try.ntmps14
    go_wp2_with (go_at_call 75; ((with_reducible refine (calls_bool (isFactored_any _ _) H.out).mono ?_); rintro e w' ⟨rfl, rfl⟩))
    go_ret2
    exact ⟨.slice none 0 0, by simp [HC.out], by simpa [dofL, HC.out] using Own.nil, Below.refl _ _⟩
  all_goals
    have H := Lib.hid h
    have HC := Lib.hid hc
    clear h hc
    go_enter Try.func14, Try.ntmps14
    go_wp2_with (first | (go_at_call 75; ((with_reducible refine (calls_bool (isFactored_any _ _) H.out).mono ?_); rintro e w' ⟨rfl, rfl⟩)) | (go_at_call 76; with_reducible refine (divisors_any n _ n1 n2).mono ?_))
    rintro _ w1 ⟨v1, rfl, o1, hb1⟩
    obtain ⟨a, c, hv⟩ := reads_shape o1.reads
    subst hv
    go_wp2
    go_ret2
  · exact ⟨_, by simp [HC.out]; rfl, by simpa [dofL, HC.out] using o1, hb1⟩
  · exact ⟨.slice none 0 0, by simp [HC.out], by simpa [dofL, HC.out] using Own.nil, hb1⟩
set_option maxHeartbeats 1000000 in
theorem sDivisorsOf_any (n : Int) (w : World) : Calls Try.prog 13 #[.int .i64 n] w (RetIC (dofL n) (dofC n) w) := by
  rcases Bool.eq_false_or_eq_true (inB n 1 1000000) with h | h
  · obtain ⟨n1, n2⟩ := inB_iff.1 h
    have H := Lib.hid h
    clear h
    go_enter Try.func13, Try.ntmps13
    go_wp2_with (go_at_call 74; ((with_reducible refine (calls_bool (l01In_any _ _ _ _) H.out).mono ?_); rintro e w' ⟨rfl, rfl⟩))
    go_loopw [4, 5] (fun l c wr => ∃ k : Nat, c = .int .i64 ((k : Int) + 1) ∧ (k : Int) ≤ n ∧ Own wr w.heap.size l (divU n k) ∧ Below w.heap.size w wr) (fun _ c _ => (n + 1 - intOf c).toNat)
    case atStart => exact ⟨0, rfl, by omega, Own.empty (Nat.le_refl _), below_box _⟩
    case round =>
      obtain ⟨k, rfl, hk, hown, hbel⟩ := hrel
      have HO := Lib.hid hown
      have HW := Lib.hid hbel
      clear hown hbel
      by_cases hlt : (k : Int) < n
      · have hlen : (divU n k).length + 1 ≤ 1099511627776 := by have := divU_len n k; omega
        by_cases hd : n % ((k : Int) + 1) = 0
        · have HN := Lib.hid (show divU n (k + 1) = divU n k ++ [(k : Int) + 1] by rw [divU, if_pos hd])
          have hd' : (n % ((k : Int) + 1) == 0) = true := by simpa using hd
          clear hd
          go_wp2_with (at_builtin; refine append_one _ rfl _ _ rfl rfl HO.out hlen HW.out.size rfl ?_)
          intro vv w3 hown1 hbel1
          rw [← HN.out] at hown1
          have HO3 := Lib.hid hown1
          have HW3 := Lib.hid (HW.out.trans hbel1)
          clear hown1 hbel1
          go_wp2
          go_roundw
          case rel => exact ⟨k + 1, by go_num, by omega, HO3.out, HW3.out⟩
          case measure => simp [intOf]; omega
        · have HN := Lib.hid (show divU n (k + 1) = divU n k by rw [divU, if_neg hd])
          have hd' : (n % ((k : Int) + 1) == 0) = false := by simpa using hd
          clear hd
          go_wp2
          go_roundw
          case rel => exact ⟨k + 1, by go_num, by omega, by rw [HN.out]; exact HO.out, HW.out⟩
          case measure => simp [intOf]; omega
      · have HE := Lib.hid (show divU n n.toNat = divU n k by rw [show n.toNat = k by omega])
        obtain ⟨a, c, hv⟩ := reads_shape HO.out.reads
        subst hv
        rcases dof_ways n with ⟨h, hc⟩ | ⟨h, _, ⟨hl, hc⟩ | ⟨hl, hc⟩⟩
        · rw [H.out] at h; cases h
        · rw [HE.out] at hl
          have HC := Lib.hid hc
          clear h hc
          go_wp2
          go_ret2
          exact ⟨_, by simp [HC.out]; rfl, by rw [dofL, if_pos HC.out, HE.out]; exact HO.out, HW.out⟩
        · rw [HE.out] at hl
          have HC := Lib.hid hc
          clear h hc
          go_wp2
          go_ret2
          exact ⟨.slice none 0 0, by simp [HC.out], by simpa [dofL, HC.out] using Own.nil, HW.out⟩
  · have H := Lib.hid h
    have HC := Lib.hid (show dofC n = 2 by rw [dofC, if_neg (by rw [h]; simp)])
    clear h
    go_enter Try.func13, Try.ntmps13
    go_wp2_with (go_at_call 74; ((with_reducible refine (calls_bool (l01In_any _ _ _ _) H.out).mono ?_); rintro e w' ⟨rfl, rfl⟩))
    go_ret2
    exact ⟨.slice none 0 0, by simp [HC.out], by simpa [dofL, HC.out] using Own.nil, Below.refl _ _⟩

end Go.Proofs.Ytlndfjplhfgicaa
