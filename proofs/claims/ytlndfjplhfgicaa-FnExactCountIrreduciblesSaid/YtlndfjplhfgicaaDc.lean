/- Contracts: Moebius numbers, counts of irreducible polynomials. -/
import Derived.Test.YtlndfjplhfgicaaDb
import Derived.Test.YtlndfjplhfgicaaK
namespace Go.Proofs.Ytlndfjplhfgicaa
open Go.RowKit
set_option linter.unusedVariables false
set_option linter.unusedSimpArgs false

def sgnN : Nat → Int
  | 0 => 1
  | k + 1 => - sgnN k
theorem sgnN_bd : ∀ k, sgnN k = 1 ∨ sgnN k = -1
  | 0 => .inl rfl
  | k + 1 => by have := sgnN_bd k; rw [sgnN]; omega
theorem sgnN_mod : ∀ k, sgnN k = if k % 2 = 1 then -1 else 1
  | 0 => rfl
  | k + 1 => by
    rw [sgnN, sgnN_mod k]
    by_cases h : k % 2 = 1
    · rw [if_pos h, if_neg (by omega)]; rfl
    · rw [if_neg h, if_pos (by omega)]
def moeV (n : Int) : Int := if (factL n).all (fun x => decide (x.2 ≤ 1)) then sgnN (factL n).length else 0
theorem moeV_bd (n : Int) : -1 ≤ moeV n ∧ moeV n ≤ 1 := by
  unfold moeV
  split
  · have := sgnN_bd (factL n).length; omega
  · omega
theorem moe_bad {n : Int} {i : Nat} (hi : i < (factL n).length) (h : 1 < (pw (factL n) i).2) : moeV n = 0 := by
  unfold moeV
  rw [if_neg]
  intro ha
  rw [List.all_eq_true] at ha
  have := ha _ (pw_mem hi)
  simp at this
  omega
theorem moe_good {n : Int} (h : ∀ j, j < (factL n).length → (pw (factL n) j).2 ≤ 1) : moeV n = sgnN (factL n).length := by
  unfold moeV
  rw [if_pos]
  rw [List.all_eq_true]
  intro x hx
  obtain ⟨j, hj, rfl⟩ := List.getElem_of_mem hx
  have := h j hj
  rw [pw, List.getD_eq_getElem?_getD, List.getElem?_eq_getElem hj] at this
  simpa using this
theorem moe_next {L : List (Int × Int)} {k : Nat} (h : ∀ j, j < k → (pw L j).2 ≤ 1) (hk : (pw L k).2 ≤ 1) : ∀ j, j < k + 1 → (pw L j).2 ≤ 1 := by
  intro j hj
  by_cases e : j = k
  · rw [e]; exact hk
  · exact h j (by omega)

set_option maxHeartbeats 2000000 in
set_option maxRecDepth 100000 in
theorem moebius_any (n : Int) (w : World) (hn : 1 ≤ n) (hn2 : n ≤ 1000000) :
    Calls Try.prog 148 #[.int .i64 n] w fun e w' => e = .returned (.int .i64 (moeV n)) ∧ Below w.heap.size w w' := by
  go_enter Try.func148, Try.ntmps148
  go_wp2_with (go_at_call 79; with_reducible refine (factors_any n _ hn hn2).mono ?_)
  rintro _ w1 ⟨v1, rfl, hown, hb1⟩
  obtain ⟨p1, p2, rfl, p3, p4, hq⟩ := hown.parts
  have HP := Lib.hid hq
  have HB1 := Lib.hid hb1
  have hmax : (factL n).length ≤ 9223372036854775807 := by unfold maxLen at p4; omega
  clear hown hb1 hq
  go_wp2
  go_loopw [3, 9] (fun s c wr => ∃ i : Nat, c = .int .i64 (i : Int) ∧ i ≤ (factL n).length ∧ s = .int .i64 (sgnN i) ∧ Hid (∀ j, j < i → (pw (factL n) j).2 ≤ 1) ∧ Below w1.heap.size w1 wr) (fun _ c _ => (factL n).length - (intOf c).toNat)
  case atStart => exact ⟨0, rfl, by omega, rfl, Lib.hid (fun j hj => by omega), Below.refl _ _⟩
  case round =>
    obtain ⟨i, rfl, hi, rfl, HI, hbel⟩ := hrel
    have HW := Lib.hid hbel
    clear hbel
    have hsg := sgnN_bd i
    by_cases hlt : i < (factL n).length
    · obtain ⟨g, rfl, hg, hgw, hc⟩ := HP.out (by omega)
      obtain ⟨d1, d2⟩ := hc i hlt
      rw [← HW.out.cell (p := ⟨g, i * 2, none⟩) hgw] at d1
      rw [← HW.out.cell (p := ⟨g, i * 2 + 1, none⟩) hgw] at d2
      clear hc
      by_cases h1 : 1 < (pw (factL n) i).2
      · have HE := Lib.hid (moe_bad hlt h1)
        go_wp2
        go_ret
        exact ⟨ret_int HE.out.symm, HB1.out.trans ((HW.out.trans ((below_box _).mono HW.out.size)).mono HB1.out.size)⟩
      · have HN := Lib.hid (moe_next HI.out (show (pw (factL n) i).2 ≤ 1 by omega))
        go_wp2
        go_roundw
        case rel => exact ⟨i + 1, by go_num, by omega, rfl, HN, HW.out.trans ((below_box _).mono HW.out.size)⟩
        case measure => simp [intOf]; omega
    · have HE := Lib.hid (show moeV n = sgnN i by rw [moe_good (fun j hj => HI.out j (by omega)), show (factL n).length = i by omega])
      go_wp2
      go_ret
      exact ⟨ret_int HE.out.symm, HB1.out.trans (HW.out.mono HB1.out.size)⟩
set_option maxHeartbeats 2000000 in
set_option maxRecDepth 100000 in
theorem l10Moebius_any (n : Int) (w : World) (hn : 1 ≤ n) (hn2 : n ≤ 1000000) :
    Calls Try.prog 146 #[.int .i64 n] w fun e w' => e = .returned (.int .i64 (moeV n)) ∧ Below w.heap.size w w' := by
  go_enter Try.func146, Try.ntmps146
  go_wp2_with (go_at_call 80; with_reducible refine (l01Factor_any n _ hn hn2).mono ?_)
  rintro _ w1 ⟨v1, rfl, hown, hb1⟩
  obtain ⟨p1, p2, rfl, p3, p4, hq⟩ := hown.parts
  have HP := Lib.hid hq
  have HB1 := Lib.hid hb1
  have hmax : (factL n).length ≤ 9223372036854775807 := by unfold maxLen at p4; omega
  clear hown hb1 hq
  obtain ⟨m, hm⟩ : ∃ m, (factL n).length = m := ⟨_, rfl⟩
  have HM := Lib.hid hm
  rw [hm] at hmax p3 HP ⊢
  clear hm
  go_wp2
  go_loop [4] (fun c => ∃ i : Nat, c = .int .i64 (i : Int) ∧ i ≤ m ∧ Hid (∀ j, j < i → (pw (factL n) j).2 ≤ 1)) (fun c => m - (intOf c).toNat)
  case atStart => exact ⟨0, rfl, by omega, Lib.hid (fun j hj => by omega)⟩
  case round =>
    obtain ⟨i, rfl, hi, HI⟩ := hrel
    by_cases hlt : i < m
    · obtain ⟨g, rfl, hg, hgw, hc⟩ := HP.out (by omega)
      obtain ⟨d1, d2⟩ := hc i hlt
      clear hc
      by_cases h1 : 1 < (pw (factL n) i).2
      · have HE := Lib.hid (moe_bad (by rw [HM.out]; exact hlt) h1)
        go_wp2
        go_ret
        exact ⟨ret_int HE.out.symm, HB1.out⟩
      · have HN := Lib.hid (moe_next HI.out (show (pw (factL n) i).2 ≤ 1 by omega))
        go_wp2
        go_round
        case rel => exact ⟨i + 1, by go_num, by omega, HN⟩
        case measure => simp [intOf]; omega
    · have HE := Lib.hid (show moeV n = if m % 2 = 1 then -1 else 1 by rw [moe_good (fun j hj => HI.out j (by rw [HM.out] at hj; omega)), HM.out, sgnN_mod])
      by_cases hodd : m % 2 = 1
      · have hb : ((m : Int) % 2 == 1) = true := by simp; omega
        rw [if_pos hodd] at HE
        clear hodd
        go_wp2
        go_ret
        exact ⟨ret_int HE.out.symm, HB1.out⟩
      · have hb : ((m : Int) % 2 == 1) = false := by simp; omega
        rw [if_neg hodd] at HE
        clear hodd
        go_wp2
        go_ret
        exact ⟨ret_int HE.out.symm, HB1.out⟩

/-! ### the count -/
def irT (p n d : Int) : Int := moeV d * p ^ (n / d).toNat
def irL (p n : Int) (L : List Int) : Int := L.foldl (fun s d => s + irT p n d) 0
theorem irL_snoc (p n : Int) (L : List Int) (d : Int) : irL p n (L ++ [d]) = irL p n L + irT p n d := by simp [irL]
def irrV (p n : Int) : Int := (irL p n (divU n n.toNat)).tdiv n
theorem abs_mulX {x y b : Int} (hx : -1 ≤ x ∧ x ≤ 1) (hy : 0 ≤ y ∧ y ≤ b) : -b ≤ x * y ∧ x * y ≤ b := by
  have : x = 0 ∨ x = 1 ∨ x = -1 := by omega
  rcases this with rfl | rfl | rfl <;> omega
theorem irT_bd {p n d : Int} (hp : 2 ≤ p ∧ p ≤ 97) (hn : 1 ≤ n ∧ n ≤ 8) (hd : 1 ≤ d) : (0 ≤ n / d ∧ n / d ≤ 8) ∧ (1 ≤ p ^ (n / d).toNat ∧ p ^ (n / d).toNat ≤ 7837433594376961) ∧ -7837433594376961 ≤ irT p n d ∧ irT p n d ≤ 7837433594376961 := by
  have h1 : 0 ≤ n / d ∧ n / d ≤ n := ⟨Int.ediv_nonneg (by omega) (by omega), Int.ediv_le_self _ (by omega)⟩
  have h2 := pow8 (n := n / d) hp (by omega)
  have h3 := moeV_bd d
  have h4 := abs_mulX (x := moeV d) (y := p ^ (n / d).toNat) (b := 7837433594376961) h3 (by omega)
  exact ⟨by omega, h2, h4⟩
theorem irF_bd {p n : Int} (hp : 2 ≤ p ∧ p ≤ 97) (hn : 1 ≤ n ∧ n ≤ 8) : ∀ (L : List Int) (s b : Int), (∀ d ∈ L, 1 ≤ d) → 0 ≤ b → (-b ≤ s ∧ s ≤ b) → -(b + L.length * 7837433594376961) ≤ L.foldl (fun s d => s + irT p n d) s ∧ L.foldl (fun s d => s + irT p n d) s ≤ b + L.length * 7837433594376961
  | [], s, b, _, hb, hs => by simp; omega
  | d :: L, s, b, h, hb, hs => by
    have i2 := (irT_bd hp hn (h d (List.mem_cons_self ..))).2.2
    have := irF_bd hp hn L (s + irT p n d) (b + 7837433594376961) (fun x hx => h x (List.mem_cons_of_mem _ hx)) (by omega) (by omega)
    simp only [List.foldl_cons, List.length_cons]
    omega
theorem irL_bd {p n : Int} (hp : 2 ≤ p ∧ p ≤ 97) (hn : 1 ≤ n ∧ n ≤ 8) {L : List Int} (h : ∀ d ∈ L, 1 ≤ d) (hl : L.length ≤ 8) : -62699468755015688 ≤ irL p n L ∧ irL p n L ≤ 62699468755015688 := by
  have := irF_bd hp hn L 0 0 h (by omega) (by omega)
  unfold irL
  omega
theorem divU_pos (n : Int) (k : Nat) : ∀ d ∈ divU n k, 1 ≤ d := fun d hd => ((divU_mem n k d).1 hd).1
set_option maxHeartbeats 2000000 in
theorem irreducibles_any (p n : Int) (w : World) (hp : 2 ≤ p ∧ p ≤ 97) (hn : 1 ≤ n ∧ n ≤ 8) :
    Calls Try.prog 97 #[.int .i64 p, .int .i64 n] w fun e w' => e = .returned (.int .i64 (irrV p n)) ∧ Below w.heap.size w w' := by
  have hl8 := divU_len n n.toNat
  have hpos := divU_pos n n.toNat
  have hmem := fun d => divU_mem n n.toNat d
  obtain ⟨L, hL⟩ : ∃ L, divU n n.toNat = L := ⟨_, rfl⟩
  have HV := Lib.hid (show irrV p n = (irL p n L).tdiv n by rw [irrV, hL])
  have HD := Lib.hid (show ∀ w, Calls Try.prog 76 #[.int .i64 n] w (RetInts L w) from fun w => by rw [← hL]; exact divisors_any n w hn.1 (by omega))
  rw [hL] at hl8 hpos hmem
  clear hL
  have HPOS := Lib.hid hpos
  have HMEM := Lib.hid hmem
  clear hpos hmem
  go_enter Try.func97, Try.ntmps97
  go_wp2_with (go_at_call 76; with_reducible refine (HD.out _).mono ?_)
  rintro _ w1 ⟨v1, rfl, o1, hb1⟩
  obtain ⟨la, lc, rfl⟩ := reads_shape o1.reads
  have HR1 := Lib.hid o1.reads
  have HB1 := Lib.hid hb1
  obtain ⟨m, hm⟩ : ∃ m, L.length = m := ⟨_, rfl⟩
  rw [hm] at HR1 hl8 ⊢
  have HM := Lib.hid hm
  clear o1 hb1 hm
  go_wp2
  go_loopw [5, 11] (fun s c wr => ∃ k : Nat, c = .int .i64 (k : Int) ∧ k ≤ m ∧ s = .int .i64 (irL p n (L.take k)) ∧ Below w1.heap.size w1 wr) (fun _ c _ => m - (intOf c).toNat)
  case atStart => exact ⟨0, rfl, by omega, rfl, Below.refl _ _⟩
  case round =>
    obtain ⟨k, rfl, hk, rfl, hbel⟩ := hrel
    have HW := Lib.hid hbel
    clear hbel
    have hsb := irL_bd hp hn (L := L.take k) (fun d hd => HPOS.out d (List.mem_of_mem_take hd)) (by rw [List.length_take]; omega)
    by_cases hlt : k < m
    · obtain ⟨b3, o3, e3, hc3⟩ := (HR1.out.step HW.out).cellOf (k := k) (by rw [HM.out]; exact hlt)
      subst e3
      have hme := (HMEM.out (el L k)).1 (el_mem (by rw [HM.out]; exact hlt))
      obtain ⟨d1, d2, _⟩ := hme
      obtain ⟨⟨t1, t2⟩, ⟨t3, t4⟩, t5, t6⟩ := irT_bd hp hn d1
      have HN := Lib.hid (show irL p n (L.take (k + 1)) = irL p n (L.take k) + irT p n (el L k) by rw [take_el (by rw [HM.out]; exact hlt), irL_snoc])
      have hmb := moeV_bd (el L k)
      unfold irT at t5 t6
      obtain ⟨d, hd⟩ : ∃ d, el L k = d := ⟨_, rfl⟩
      rw [hd] at hc3 d1 d2 t1 t2 t3 t4 t5 t6 HN hmb
      clear hd
      go_wp2_with (first | (go_at_call 148; ((with_reducible refine (moebius_any d _ d1 (by omega)).mono ?_); rintro e w1_hb0 ⟨rfl, hb0⟩; obtain ⟨chb0, fhb0, shb0⟩ := bfacts2 hb0; (try simp at shb0))) | (go_at_call 143; ((with_reducible refine (power_any p (n / d) _ (by omega) (by omega) (by omega)).mono ?_); rintro e w' ⟨rfl, rfl⟩)) | (refine wp_region_wext (by kernel_rfl) (by kernel_rfl) ?_; (repeat (go_big_quiet_step (first | (go_at_call 148; with_reducible refine calls_wext (moebius_any d _ d1 (by omega))) | (go_at_call 143; with_reducible refine calls_wext_same (power_any p (n / d) _ (by omega) (by omega) (by omega)))))); refine wpQuiet_nil ?_; intro w1_hbq hbq; replace hbq := below_of_wext hbq; obtain ⟨chbq, fhbq, shbq⟩ := bfacts2 hbq; (try simp at shbq)))
      go_roundw
      case rel => exact ⟨k + 1, by go_num, by omega, vint (by rw [HN.out]; rfl), HW.out.trans (hbq.mono HW.out.size)⟩
      case measure => simp [intOf]; omega
    · have HE := Lib.hid (show L.take k = L from List.take_of_length_le (by rw [HM.out]; omega))
      rw [HE.out] at hsb ⊢
      go_wp2
      go_ret
      exact ⟨ret_int HV.out.symm, HB1.out.trans (HW.out.mono HB1.out.size)⟩
set_option maxHeartbeats 2000000 in
theorem l10Irreducibles_any (p n : Int) (w : World) (hp : 2 ≤ p ∧ p ≤ 97) (hn : 1 ≤ n ∧ n ≤ 8) :
    Calls Try.prog 94 #[.int .i64 p, .int .i64 n] w fun e w' => e = .returned (.int .i64 (irrV p n)) ∧ Below w.heap.size w w' := by
  go_enter Try.func94, Try.ntmps94
  go_wp2
  go_loopw [5, 6] (fun s c wr => ∃ k : Nat, c = .int .i64 ((k : Int) + 1) ∧ (k : Int) ≤ n ∧ s = .int .i64 (irL p n (divU n k)) ∧ Below w.heap.size w wr) (fun _ c _ => (n + 1 - intOf c).toNat)
  case atStart => exact ⟨0, rfl, by omega, rfl, Below.refl _ _⟩
  case round =>
    obtain ⟨k, rfl, hk, rfl, hbel⟩ := hrel
    have HW := Lib.hid hbel
    clear hbel
    have hsb := irL_bd hp hn (L := divU n k) (divU_pos n k) (by have := divU_len n k; omega)
    by_cases hlt : (k : Int) < n
    · by_cases hd : n % ((k : Int) + 1) = 0
      · have HN := Lib.hid (show irL p n (divU n (k + 1)) = irL p n (divU n k) + irT p n ((k : Int) + 1) by rw [divU, if_pos hd, irL_snoc])
        have hd' : (n % ((k : Int) + 1) == 0) = true := by simpa using hd
        obtain ⟨⟨t1, t2⟩, ⟨t3, t4⟩, t5, t6⟩ := irT_bd hp hn (show 1 ≤ (k : Int) + 1 by omega)
        have hmb := moeV_bd ((k : Int) + 1)
        unfold irT at t5 t6
        clear hd
        go_wp2_with (first | (go_at_call 146; ((with_reducible refine (l10Moebius_any ((k : Int) + 1) _ (by omega) (by omega)).mono ?_); rintro e w1_hb0 ⟨rfl, hb0⟩; obtain ⟨chb0, fhb0, shb0⟩ := bfacts2 hb0; (try simp at shb0))) | (go_at_call 147; ((with_reducible refine (l10Power_any p (n / ((k : Int) + 1)) _ hp ⟨by omega, by omega⟩).mono ?_); rintro e w' ⟨rfl, rfl⟩)) | (refine wp_region_wext (by kernel_rfl) (by kernel_rfl) ?_; (repeat (go_big_quiet_step (first | (go_at_call 146; with_reducible refine calls_wext (l10Moebius_any ((k : Int) + 1) _ (by omega) (by omega))) | (go_at_call 147; with_reducible refine calls_wext_same (l10Power_any p (n / ((k : Int) + 1)) _ hp ⟨by omega, by omega⟩))))); refine wpQuiet_nil ?_; intro w1_hbq hbq; replace hbq := below_of_wext hbq; obtain ⟨chbq, fhbq, shbq⟩ := bfacts2 hbq; (try simp at shbq)))
        go_roundw
        case rel => exact ⟨k + 1, by go_num, by omega, vint (by rw [HN.out]; rfl), HW.out.trans (hbq.mono HW.out.size)⟩
        case measure => simp [intOf]; omega
      · have HN := Lib.hid (show divU n (k + 1) = divU n k by rw [divU, if_neg hd])
        have hd' : (n % ((k : Int) + 1) == 0) = false := by simpa using hd
        clear hd
        go_wp2
        go_roundw
        case rel => exact ⟨k + 1, by go_num, by omega, vint (by rw [HN.out]), HW.out⟩
        case measure => simp [intOf]; omega
    · have HV := Lib.hid (show irrV p n = (irL p n (divU n k)).tdiv n by rw [irrV, show n.toNat = k by omega])
      go_wp2
      go_ret
      exact ⟨ret_int HV.out.symm, HW.out⟩

/-! ### CountIrreducibles -/
def cirC (p n : Int) : Int := if cntCode p n 1 8 = 0 then tmC (irrV p n) else cntCode p n 1 8
def cirV (p n : Int) : Int := if cntCode p n 1 8 = 0 then tmV (irrV p n) else 0
theorem cnt_ok {p n : Int} (h : cntCode p n 1 8 = 0) : (2 ≤ p ∧ p ≤ 97) ∧ 1 ≤ n ∧ n ≤ 8 := by
  unfold cntCode at h
  by_cases h1 : smallB p = true
  · rw [if_pos h1] at h
    by_cases h2 : inB n 1 8 = true
    · exact ⟨small_bd h1, inB_iff.1 h2⟩
    · rw [if_neg h2] at h; cases h
  · rw [if_neg h1] at h; cases h
theorem CountIrreducibles_any (p n : Int) (w : World) : Calls Try.prog 30 #[.int .i64 p, .int .i64 n] w fun e w' => e = .returned (.tuple #[.int .i64 (cirV p n), .int .i64 (cirC p n)]) ∧ Below w.heap.size w w' := by
  by_cases hc : cntCode p n 1 8 = 0
  · obtain ⟨hp, hn⟩ := cnt_ok hc
    have HC := Lib.hid hc
    clear hc
    go_enter Try.func30, Try.ntmps30
    go_wp2_with (first | (go_at_call 95; ((with_reducible refine (calls_int (counting_any _ _ _ _ _) HC.out).mono ?_); rintro e w' ⟨rfl, rfl⟩)) | (go_at_call 97; ((with_reducible refine (irreducibles_any _ _ _ hp hn).mono ?_); rintro e w1_hb1 ⟨rfl, hb1⟩; obtain ⟨chb1, fhb1, shb1⟩ := bfacts2 hb1; (try simp at shb1))) | (go_at_call 96; ((with_reducible refine (orTooMany_any _ _).mono ?_); rintro e w' ⟨rfl, rfl⟩)) | (refine wp_region_wext (by kernel_rfl) (by kernel_rfl) ?_; (repeat (go_big_quiet_step (first | (go_at_call 95; with_reducible refine calls_wext_same (calls_int (counting_any _ _ _ _ _) HC.out)) | (go_at_call 97; with_reducible refine calls_wext (irreducibles_any _ _ _ hp hn)) | (go_at_call 96; with_reducible refine calls_wext_same (orTooMany_any _ _))))); refine wpQuiet_nil ?_; intro w1_hbq hbq; replace hbq := below_of_wext hbq; obtain ⟨chbq, fhbq, shbq⟩ := bfacts2 hbq; (try simp at shbq)))
    go_ret2
    exact ⟨by simp [cirV, cirC, HC.out], (by repeat (first | assumption | exact Below.refl _ _ | exact below_box _ | refine Below.drew ?_ | refine Below.setCell ?_ (by first | (simp; done) | (simp; omega)) _ | (refine below_step (by assumption) (by first | omega | (simp; done) | (simp; omega)) ?_) | (refine Below.alloc ?_ (by first | omega | (simp; done) | (simp; omega)) _)))⟩
  · have HC := Lib.hid hc
    have hb : (cntCode p n 1 8 != 0) = true := by simpa using hc
    clear hc
    go_enter Try.func30, Try.ntmps30
    go_wp2_with (first | (go_at_call 95; ((with_reducible refine (counting_any _ _ _ _ _).mono ?_); rintro e w' ⟨rfl, rfl⟩)) | (refine wp_region_wext (by kernel_rfl) (by kernel_rfl) ?_; (repeat (go_big_quiet_step (first | (go_at_call 95; with_reducible refine calls_wext_same (counting_any _ _ _ _ _))))); refine wpQuiet_nil ?_; intro w1_hbq hbq; replace hbq := below_of_wext hbq; obtain ⟨chbq, fhbq, shbq⟩ := bfacts2 hbq; (try simp at shbq)))
    go_ret2
    exact ⟨by simp [cirV, cirC, HC.out], (by repeat (first | assumption | exact Below.refl _ _ | exact below_box _ | refine Below.drew ?_ | refine Below.setCell ?_ (by first | (simp; done) | (simp; omega)) _ | (refine below_step (by assumption) (by first | omega | (simp; done) | (simp; omega)) ?_) | (refine Below.alloc ?_ (by first | omega | (simp; done) | (simp; omega)) _)))⟩
theorem sCountIrreducibles_any (p n : Int) (w : World) : Calls Try.prog 29 #[.int .i64 p, .int .i64 n] w fun e w' => e = .returned (.tuple #[.int .i64 (cirV p n), .int .i64 (cirC p n)]) ∧ Below w.heap.size w w' := by
  by_cases hc : cntCode p n 1 8 = 0
  · obtain ⟨hp, hn⟩ := cnt_ok hc
    have HC := Lib.hid hc
    clear hc
    go_enter Try.func29, Try.ntmps29
    go_wp2_with (first | (go_at_call 92; ((with_reducible refine (calls_int (l10Code_any _ _ _ _ _) HC.out).mono ?_); rintro e w' ⟨rfl, rfl⟩)) | (go_at_call 94; ((with_reducible refine (l10Irreducibles_any _ _ _ hp hn).mono ?_); rintro e w1_hb1 ⟨rfl, hb1⟩; obtain ⟨chb1, fhb1, shb1⟩ := bfacts2 hb1; (try simp at shb1))) | (go_at_call 93; ((with_reducible refine (l10Result_any _ _).mono ?_); rintro e w' ⟨rfl, rfl⟩)) | (refine wp_region_wext (by kernel_rfl) (by kernel_rfl) ?_; (repeat (go_big_quiet_step (first | (go_at_call 92; with_reducible refine calls_wext_same (calls_int (l10Code_any _ _ _ _ _) HC.out)) | (go_at_call 94; with_reducible refine calls_wext (l10Irreducibles_any _ _ _ hp hn)) | (go_at_call 93; with_reducible refine calls_wext_same (l10Result_any _ _))))); refine wpQuiet_nil ?_; intro w1_hbq hbq; replace hbq := below_of_wext hbq; obtain ⟨chbq, fhbq, shbq⟩ := bfacts2 hbq; (try simp at shbq)))
    go_ret2
    exact ⟨by simp [cirV, cirC, HC.out], (by repeat (first | assumption | exact Below.refl _ _ | exact below_box _ | refine Below.drew ?_ | refine Below.setCell ?_ (by first | (simp; done) | (simp; omega)) _ | (refine below_step (by assumption) (by first | omega | (simp; done) | (simp; omega)) ?_) | (refine Below.alloc ?_ (by first | omega | (simp; done) | (simp; omega)) _)))⟩
  · have HC := Lib.hid hc
    have hb : (cntCode p n 1 8 != 0) = true := by simpa using hc
    clear hc
    go_enter Try.func29, Try.ntmps29
    go_wp2_with (first | (go_at_call 92; ((with_reducible refine (l10Code_any _ _ _ _ _).mono ?_); rintro e w' ⟨rfl, rfl⟩)) | (refine wp_region_wext (by kernel_rfl) (by kernel_rfl) ?_; (repeat (go_big_quiet_step (first | (go_at_call 92; with_reducible refine calls_wext_same (l10Code_any _ _ _ _ _))))); refine wpQuiet_nil ?_; intro w1_hbq hbq; replace hbq := below_of_wext hbq; obtain ⟨chbq, fhbq, shbq⟩ := bfacts2 hbq; (try simp at shbq)))
    go_ret2
    exact ⟨by simp [cirV, cirC, HC.out], (by repeat (first | assumption | exact Below.refl _ _ | exact below_box _ | refine Below.drew ?_ | refine Below.setCell ?_ (by first | (simp; done) | (simp; omega)) _ | (refine below_step (by assumption) (by first | omega | (simp; done) | (simp; omega)) ?_) | (refine Below.alloc ?_ (by first | omega | (simp; done) | (simp; omega)) _)))⟩

end Go.Proofs.Ytlndfjplhfgicaa
