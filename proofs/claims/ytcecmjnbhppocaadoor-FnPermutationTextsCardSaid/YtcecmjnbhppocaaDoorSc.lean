/- Texts of permutations: plain, and the reference's own texts. -/
import Derived.Test.YtcecmjnbhppocaaDoorX
import Derived.Test.YtcecmjnbhppocaaDoorY
import Derived.Laws.IdiomStrings
import Derived.Lib.Strings
import Derived.Lib.Split
namespace Go.Proofs.YtcecmjnbhppocaaDoor
open Go.RowKit
set_option linter.unusedVariables false
set_option linter.unusedSimpArgs false
set_option maxRecDepth 100000

def bs (l : List UInt8) : ByteArray := ⟨l.toArray⟩
theorem bs_add (a b : List UInt8) : bs a ++ bs b = bs (a ++ b) := by
  apply ByteArray.ext
  show (bs a ++ bs b).data = (a ++ b).toArray
  rw [ByteArray.data_append]
  simp [bs]
theorem bs_size (a : List UInt8) : (bs a).size = a.length := by show a.toArray.size = a.length; simp
theorem bs_inj {a b : List UInt8} (h : bs a = bs b) : a = b := by
  have := congrArg (fun x : ByteArray => x.data.toList) h
  simpa [bs] using this
theorem bs_list (a : List UInt8) : (bs a).toList = a := by rw [ByteArray.toList_eq]; simp [bs]
theorem bs_0 : (⟨#[]⟩ : ByteArray) = bs [] := rfl
theorem bs_32 : (⟨#[32]⟩ : ByteArray) = bs [32] := rfl
theorem bs_40 : (⟨#[40]⟩ : ByteArray) = bs [40] := rfl
theorem bs_41 : (⟨#[41]⟩ : ByteArray) = bs [41] := rfl
theorem bs_44 : (⟨#[44]⟩ : ByteArray) = bs [44] := rfl
theorem bs_58 : (⟨#[58]⟩ : ByteArray) = bs [58] := rfl
theorem bs_4041 : (⟨#[40, 41]⟩ : ByteArray) = bs [40, 41] := rfl
def dg (n : Int) : List UInt8 := [UInt8.ofNat (48 + n.toNat)]
theorem dg_nat {n : Int} (h : 0 ≤ n ∧ n ≤ 9) : ((UInt8.ofNat (48 + n.toNat)).toNat : Int) = 48 + n := by
  rw [UInt8.toNat_ofNat']; omega
theorem l01Dec_small {n : Int} (h : 0 ≤ n ∧ n ≤ 9) (w : World) :
    Calls Tryd.prog 37 #[.int .i64 n] w fun e w' => e = .returned (.string (bs (dg n))) ∧ Below w.heap.size w w' := by
  have hconv : (convert 32 9 (.slice (some ⟨w.heap.size, 0, none⟩) 1 1)).run Tryd.prog (w.alloc (.cells #[.int .u8 (48 + n)] 5)) = .ok (.string (bs (dg n))) (w.alloc (.cells #[.int .u8 (48 + n)] 5)) :=
    run_convert_bytes_back _ _ _ 5 ⟨w.heap.size, 0, none⟩ 1 (dg n) Tryd.underlying32 Tryd.underlying5 Tryd.underlying9 (fun j hj => by
      obtain rfl : j = 0 := by simp [dg] at hj; omega
      simp only [dg, List.getElem_cons_zero]
      rw [dg_nat h]
      simp [Addr.add])
  obtain ⟨h1, h2⟩ := h
  go_enter Tryd.func37, Tryd.ntmps37
  go_wp2
  go_ret
  exact ⟨rfl, below_box _⟩
theorem l01Number_small {n : Int} (h : 0 ≤ n ∧ n ≤ 9) (w : World) :
    Calls Tryd.prog 51 #[.int .i64 n] w fun e w' => e = .returned (.string (bs (dg n))) ∧ Below w.heap.size w w' := by
  have hd := Lib.hid (fun w => l01Dec_small h w)
  obtain ⟨h1, h2⟩ := h
  go_enter Tryd.func51, Tryd.ntmps51
  go_wp2_with (go_at_call 37; with_reducible refine (hd.out _).mono ?_)
  rintro _ w1 ⟨rfl, hb1⟩
  go_wp2
  go_ret
  exact ⟨rfl, hb1⟩
/-- The first k numbers, blanks between. -/
def jnN (L : List Int) : Nat → List UInt8
  | 0 => []
  | k + 1 => (if 0 < k then jnN L k ++ [32] else jnN L k) ++ dg (el L k)
theorem jnN_len (L : List Int) : ∀ k, (jnN L k).length ≤ 2 * k
  | 0 => by simp [jnN]
  | k + 1 => by
    have := jnN_len L k
    rw [jnN, List.length_append]
    split <;> simp [dg] <;> omega
set_option maxHeartbeats 1000000 in
theorem l01Join_small {v : Value} {L : List Int} {w : World} (h : Reads w v L) (hl : L.length ≤ 1000) (hd : ∀ k, k < L.length → 0 ≤ el L k ∧ el L k ≤ 9) :
    Calls Tryd.prog 36 #[v, .string (bs [32])] w fun e w' => e = .returned (.string (bs (jnN L L.length))) ∧ Below w.heap.size w w' := by
  obtain ⟨hL, a, cap, rfl, hcap, hmax, hcell⟩ := h
  obtain ⟨n, hn⟩ : ∃ n, L.length = n := ⟨_, rfl⟩
  rw [hn] at hl hcap hcell hd ⊢
  have HC := Lib.hid hcell
  have HD := Lib.hid hd
  have BSZ := bs_size
  have BAD := bs_add
  clear hcell hd hn hL
  go_enter Tryd.func36, Tryd.ntmps36
  rw [bs_0]
  go_wp2
  go_loopw [6, 5] (fun c d wr => ∃ k : Nat, c = .int .i64 (k : Int) ∧ k ≤ n ∧ d = .string (bs (jnN L k)) ∧ Below w.heap.size w wr) (fun c _ _ => n - (intOf c).toNat)
  case atStart => exact ⟨0, rfl, by omega, rfl, Below.refl _ _⟩
  case round =>
    obtain ⟨k, rfl, hk, rfl, hbel⟩ := hrel
    have HW := Lib.hid hbel
    have hlen := jnN_len L k
    clear hbel
    by_cases hlt : k < n
    · obtain ⟨b, o, rfl, hb, hc⟩ := HC.out (by omega)
      have f1 := (HW.out.cell (p := ⟨b, o + k, none⟩) hb).trans (hc k hlt)
      have HDK := Lib.hid (HD.out k hlt)
      have HX : jnN L (k + 1) = (if 0 < k then jnN L k ++ [32] else jnN L k) ++ dg (el L k) := rfl
      have HX := Lib.hid HX
      generalize el L k = x at *
      clear hc
      have hdl : (dg x).length = 1 := rfl
      by_cases h0 : 0 < k
      · have h0i : (0 : Int) < (k : Int) := by omega
        go_wp2_with (go_at_call 51; with_reducible refine (l01Number_small HDK.out _).mono ?_)
        rintro _ w1 ⟨rfl, hb1⟩
        go_wp2
        go_roundw
        case rel => exact ⟨k + 1, by go_num, by omega, by rw [HX.out, if_pos h0]; simp, HW.out.trans (hb1.mono HW.out.size)⟩
        case measure => simp [intOf]; omega
      · obtain rfl : k = 0 := by omega
        simp only [Nat.add_zero] at f1
        go_wp2_with (go_at_call 51; with_reducible refine (l01Number_small HDK.out _).mono ?_)
        rintro _ w1 ⟨rfl, hb1⟩
        go_wp2
        go_roundw
        case rel => exact ⟨1, by go_num, by omega, by rw [HX.out, if_neg h0], HW.out.trans (hb1.mono HW.out.size)⟩
        case measure => simp [intOf]; omega
    · obtain rfl : k = n := by omega
      go_wp2
      go_ret
      exact ⟨rfl, HW.out⟩

/-- The first i cycles that move a point. -/
def bodN (zss : List (List Int)) : Nat → List UInt8
  | 0 => []
  | i + 1 => if 1 < (row zss i).length then bodN zss i ++ 40 :: (jnN (row zss i) (row zss i).length ++ [41]) else bodN zss i
def txtL (zs : List Int) : List UInt8 := dg zs.length ++ 58 :: (if bodN (cycL zs) (cycL zs).length = [] then [40, 41] else bodN (cycL zs) (cycL zs).length)
theorem bodN_len {zss : List (List Int)} (h : ∀ i, i < zss.length → (row zss i).length ≤ 6) : ∀ i, i ≤ zss.length → (bodN zss i).length ≤ 14 * i
  | 0, _ => by simp [bodN]
  | i + 1, hi => by
    have h1 := bodN_len h i (by omega)
    have h2 := h i (by omega)
    have h3 := jnN_len (row zss i) (row zss i).length
    rw [bodN]
    split
    · simp; omega
    · omega
theorem walkC_in {zs : List Int} (h : ∀ k, k < zs.length → 0 ≤ el zs k ∧ el zs k < zs.length) : ∀ (f : Nat) (seen : List Bool) (c : List Int) (k : Int), (∀ x ∈ c, 0 ≤ x ∧ x < zs.length) → (0 ≤ k ∧ k < zs.length) → ∀ x ∈ (walkC zs f seen c k).2, 0 ≤ x ∧ x < zs.length
  | 0, seen, c, k, hc, hk => hc
  | f + 1, seen, c, k, hc, hk => by
    simp only [walkC]
    split
    · exact hc
    · refine walkC_in h f _ _ _ (fun x hx => ?_) (h k.toNat (by omega))
      rcases List.mem_append.1 hx with hx | hx
      · exact hc x hx
      · simp at hx; omega
theorem cycN_in {zs : List Int} (h : ∀ k, k < zs.length → 0 ≤ el zs k ∧ el zs k < zs.length) : ∀ i, i ≤ zs.length → ∀ c ∈ (cycN zs i).2, ∀ x ∈ c, 0 ≤ x ∧ x < zs.length
  | 0, _, c, hc => by simp [cycN] at hc
  | i + 1, hi, c, hc => by
    simp only [cycN] at hc
    split at hc
    · exact cycN_in h i (by omega) c hc
    · rcases List.mem_append.1 hc with hc | hc
      · exact cycN_in h i (by omega) c hc
      · simp at hc
        subst hc
        exact walkC_in h _ _ _ _ (by simp) ⟨by omega, by omega⟩
/-- What is known of the cycles of a permutation. -/
theorem cyc_small {zs : List Int} (h : permB zs = true) : (cycL zs).length ≤ 6 ∧ ∀ i, i < (cycL zs).length → (row (cycL zs) i).length ≤ 6 ∧ ∀ k, k < (row (cycL zs) i).length → 0 ≤ el (row (cycL zs) i) k ∧ el (row (cycL zs) i) k ≤ 9 := by
  obtain ⟨h1, h2, h3⟩ := permB_bd h
  have h4 : (cycL zs).length ≤ zs.length := (cycN_bd zs zs.length).2
  refine ⟨by omega, fun i hi => ?_⟩
  have hm : row (cycL zs) i ∈ cycL zs := by
    rw [row, List.getD_eq_getElem?_getD, List.getElem?_eq_getElem hi]
    exact List.getElem_mem _
  have h5 := cycN_rows zs zs.length _ hm
  refine ⟨by omega, fun k hk => ?_⟩
  have := cycN_in h3 zs.length (Nat.le_refl _) _ hm _ (el_mem hk)
  omega

set_option maxHeartbeats 2000000 in
theorem l21Text_any {v : Value} {zs : List Int} {w : World} (h : Reads w v zs) (hp : permB zs = true) :
    Calls Tryd.prog 19 #[v] w fun e w' => e = .returned (.string (bs (txtL zs))) ∧ Below w.heap.size w w' := by
  have HR := Lib.hid h
  obtain ⟨hc6, hrow⟩ := cyc_small hp
  have HRW := Lib.hid hrow
  have hn6 := (permB_bd hp).2.1
  have HB := Lib.hid (bodN_len (fun i hi => (hrow i hi).1))
  have HP := Lib.hid hp
  obtain ⟨hL, a, cap, rfl, hcap, hmax, _⟩ := h
  have HTX := Lib.hid (show txtL zs = dg zs.length ++ 58 :: (if bodN (cycL zs) (cycL zs).length = [] then [40, 41] else bodN (cycL zs) (cycL zs).length) from rfl)
  clear hp hrow
  go_enter Tryd.func19, Tryd.ntmps19
  rw [bs_0, bs_32, bs_40, bs_41, bs_4041, bs_58]
  have BSZ := bs_size
  have BAD := bs_add
  go_wp2_with (go_at_call 35; with_reducible refine (l21Cycles_any HR.out HP.out).mono ?_)
  rintro _ w1 ⟨v1, rfl, o1, hb1⟩
  obtain ⟨us, a1, c1, rfl, hcap1, hmax1, hg, hv, hf⟩ := o1.parts
  have HG := Lib.hid hg
  have HV := Lib.hid hv
  have HF := Lib.hid hf
  have HB1 := Lib.hid hb1
  have hs1 := hb1.size
  clear o1 hg hv hf hb1
  generalize cycL zs = Z at *
  obtain ⟨n, hn⟩ : ∃ n, Z.length = n := ⟨_, rfl⟩
  obtain ⟨N, hN⟩ : ∃ N, zs.length = N := ⟨_, rfl⟩
  rw [hn] at HG HB HRW hc6 hcap1 HTX ⊢
  rw [hN] at HTX hn6 ⊢
  have HN := Lib.hid hn
  have hN1 : 0 ≤ (N : Int) ∧ (N : Int) ≤ 9 := by omega
  clear hn hN
  go_wp2
  go_loopw [5, 3] (fun c d wr => ∃ i : Nat, c = .int .i64 (i : Int) ∧ i ≤ n ∧ d = .string (bs (bodN Z i)) ∧ Below w1.heap.size w1 wr) (fun c _ _ => n - (intOf c).toNat)
  case atStart => exact ⟨0, rfl, by omega, rfl, Below.refl _ _⟩
  case round =>
    obtain ⟨i, rfl, hi, rfl, hbel⟩ := hrel
    have HW := Lib.hid hbel
    have hsw := hbel.size
    have hbl := HB.out i hi
    clear hbel
    by_cases hlt : i < n
    · obtain ⟨g, rfl, g1, _, _⟩ := HG.out (by omega)
      have f1 : wr.cell? ⟨g, i, none⟩ = some (at_ us i) := by rw [HW.out.cell (p := ⟨g, i, none⟩) g1]; exact HV.out.cellAt (at_get (by have := HF.out.len; have := HN.out; omega))
      have hru := ((HF.out.own i (by rw [HN.out]; exact hlt)).reads).step HW.out
      obtain ⟨r1, r2⟩ := HRW.out i hlt
      have HR2 := Lib.hid r2
      have HNX := Lib.hid (show bodN Z (i + 1) = if 1 < (row Z i).length then bodN Z i ++ 40 :: (jnN (row Z i) (row Z i).length ++ [41]) else bodN Z i from rfl)
      generalize row Z i = G at *
      have HRG := Lib.hid hru
      obtain ⟨_, a2, c2, e2, _, _, _⟩ := hru
      rw [e2] at f1
      have HRG2 := Lib.hid (show Reads wr (.slice a2 G.length c2) G by rw [← e2]; exact HRG.out)
      have hjl := jnN_len G G.length
      clear r2 e2
      by_cases hgl : 1 < G.length
      · have hgi : (1 : Int) < (G.length : Int) := by omega
        go_wp2_with (go_at_call 36; with_reducible refine (l01Join_small HRG2.out (by omega) HR2.out).mono ?_)
        rintro _ w2 ⟨rfl, hb2⟩
        go_wp2
        go_roundw
        case rel => exact ⟨i + 1, by go_num, by omega, by rw [HNX.out, if_pos hgl], HW.out.trans (hb2.mono hsw)⟩
        case measure => simp [intOf]; omega
      · have hgi : ¬ (1 : Int) < (G.length : Int) := by omega
        go_wp2
        go_roundw
        case rel => exact ⟨i + 1, by go_num, by omega, by rw [HNX.out, if_neg hgl], HW.out⟩
        case measure => simp [intOf]; omega
    · obtain rfl : i = n := by omega
      have hdl : (dg (N : Int)).length = 1 := rfl
      by_cases hbe : bodN Z i = []
      · have hbq : ((bs (bodN Z i)).toList == (bs []).toList) = true := by rw [hbe]; simp
        have HBE := Lib.hid hbe
        clear hbe
        go_wp2_with (go_at_call 37; with_reducible refine (l01Dec_small hN1 _).mono ?_)
        rintro _ w2 ⟨rfl, hb2⟩
        go_wp2
        go_ret
        exact ⟨by rw [HTX.out, if_pos HBE.out]; rfl, HB1.out.trans ((HW.out.trans (hb2.mono hsw)).mono hs1)⟩
      · have hbq : ((bs (bodN Z i)).toList == (bs []).toList) = false := by
          rw [bs_list, bs_list]
          simpa using hbe
        have HBE := Lib.hid hbe
        clear hbe
        go_wp2_with (go_at_call 37; with_reducible refine (l01Dec_small hN1 _).mono ?_)
        rintro _ w2 ⟨rfl, hb2⟩
        go_wp2
        go_ret
        exact ⟨by rw [HTX.out, if_neg HBE.out]; rfl, HB1.out.trans ((HW.out.trans (hb2.mono hsw)).mono hs1)⟩

end Go.Proofs.YtcecmjnbhppocaaDoor
