/- Contracts: the content, f at a + p y. -/
import Derived.Test.YtdkppikbneijaaaGb
import Derived.Test.YtdkppikbneijaaaT
import Derived.Test.YtdkppikbneijaaaE
import Derived.Test.YtdkppikbneijaaaH
namespace Go.Proofs.Ytdkppikbneijaaa
open Go.RowKit
set_option linter.unusedVariables false
set_option linter.unusedSimpArgs false

theorem absZ_any (n : Int) (w : World) (h1 : -9223372036854775807 ≤ n) (h2 : n ≤ 9223372036854775807) :
    Calls Try.prog 63 #[.int .i64 n] w fun e w' => e = .returned (.int .i64 n.natAbs) ∧ w = w' := by
  by_cases h : 0 ≤ n
  · go_enter Try.func63, Try.ntmps63
    go_wp2
    go_ret
    exact ⟨ret_int (by omega), rfl⟩
  · go_enter Try.func63, Try.ntmps63
    go_wp2
    go_ret
    exact ⟨ret_int (by omega), rfl⟩

theorem gcz_step (a b : Int) : Int.gcd b (a.tmod b) = Int.gcd a b := by
  simp only [Int.gcd, Int.natAbs_tmod]
  rw [Nat.gcd_comm a.natAbs, Nat.gcd_rec b.natAbs a.natAbs, Nat.gcd_comm]
theorem gcz_zero (a : Int) : (Int.gcd a 0 : Int) = a.natAbs := by simp [Int.gcd]
theorem tmodz_lt (a : Int) {b : Int} (hb : b ≠ 0) : (a.tmod b).natAbs < b.natAbs := by
  rw [Int.natAbs_tmod]; exact Nat.mod_lt _ (by omega)
set_option maxHeartbeats 1000000 in
theorem gcdZ_any (a b : Int) (w : World) (ha : -1000000000000 ≤ a ∧ a ≤ 1000000000000) (hb : -1000000000000 ≤ b ∧ b ≤ 1000000000000) :
    Calls Try.prog 55 #[.int .i64 a, .int .i64 b] w fun e w' => e = .returned (.int .i64 ((Int.gcd a b : Int))) ∧ Below w.heap.size w w' := by
  go_enter Try.func55, Try.ntmps55
  go_wp2
  go_loopw [0, 1] (fun x y wr => ∃ A B : Int, x = .int .i64 A ∧ y = .int .i64 B ∧ (-1000000000000 ≤ A ∧ A ≤ 1000000000000) ∧ (-1000000000000 ≤ B ∧ B ≤ 1000000000000) ∧ Hid (Int.gcd A B = Int.gcd a b) ∧ Below w.heap.size w wr) (fun _ y _ => (intOf y).natAbs)
  case atStart => exact ⟨a, b, rfl, rfl, ha, hb, Lib.hid rfl, Below.refl _ _⟩
  case round =>
    obtain ⟨A, B, rfl, rfl, ⟨a1, a2⟩, ⟨b1, b2⟩, HG, hbel⟩ := hrel
    have HW := Lib.hid hbel
    clear hbel
    by_cases h0 : B = 0
    · subst h0
      have HE := Lib.hid (show (Int.gcd a b : Int) = A.natAbs by rw [← HG.out, gcz_zero])
      go_wp2_with (go_at_call 63; ((with_reducible refine (absZ_any A _ (by omega) (by omega)).mono ?_); rintro e w' ⟨rfl, rfl⟩))
      go_ret
      exact ⟨ret_int HE.out.symm, HW.out⟩
    · have hb0 : (B != 0) = true := by simpa using h0
      have hm := tmodz_lt A h0
      have HN := Lib.hid (show Int.gcd B (A.tmod B) = Int.gcd a b by rw [gcz_step]; exact HG.out)
      go_wp2_with (first | (refine wp_region_wext (by kernel_rfl) (by kernel_rfl) ?_; (repeat (go_big_quiet_step (first | fail))); refine wpQuiet_nil ?_; intro w1_hbq hbq; replace hbq := below_of_wext hbq; obtain ⟨chbq, fhbq, shbq⟩ := bfacts2 hbq; (try simp at shbq)))
      go_roundw
      case rel => exact ⟨_, _, rfl, rfl, ⟨b1, b2⟩, ⟨by omega, by omega⟩, HN, HW.out.trans (hbq.mono HW.out.size)⟩
      case measure => simp only [intOf]; exact hm
theorem drop_next {f : List Int} {k : Nat} (h : k < f.length) : f.drop k = el f k :: f.drop (k + 1) := by
  rw [List.drop_eq_getElem_cons h]
  congr 1
  have := el_get h
  rw [List.getElem?_eq_getElem h] at this
  injection this
theorem cont_next {f : List Int} {k : Nat} (h : k < f.length) : (Int.gcd (contL (f.take k)) (el f k) : Int) = contL (f.take (k + 1)) := by
  rw [contL, contL, List.take_add_one, el_get h, List.foldl_append]; rfl
theorem cont_fold_bd {b : Int} : ∀ (f : List Int) (d : Int), 0 ≤ d ∧ d ≤ b → (∀ c ∈ f, -b ≤ c ∧ c ≤ b) → 0 ≤ f.foldl (fun d c => (Int.gcd d c : Int)) d ∧ f.foldl (fun d c => (Int.gcd d c : Int)) d ≤ b
  | [], d, h, _ => h
  | c :: f, d, h, hc => by
    rw [List.foldl_cons]
    refine cont_fold_bd f _ ⟨by omega, ?_⟩ (fun x hx => hc x (List.mem_cons_of_mem _ hx))
    have h1 := hc c List.mem_cons_self
    by_cases hd : d = 0
    · subst hd
      rw [Int.gcd_zero_left]
      omega
    · have := Int.le_of_dvd (show 0 < d by omega) (Int.gcd_dvd_left (a := d) (b := c))
      omega
theorem cont_bd {b : Int} (hb : 0 ≤ b) {f : List Int} (h : Bd b f) (k : Nat) : 0 ≤ contL (f.take k) ∧ contL (f.take k) ≤ b := by
  refine cont_fold_bd _ 0 ⟨Int.le_refl _, hb⟩ fun c hc => ?_
  obtain ⟨i, hi, rfl⟩ := mem_el (List.mem_of_mem_take hc)
  exact h i

set_option maxHeartbeats 1000000 in
theorem content_any {b : Int} {v : Value} {f : List Int} {w : World} (h : Reads w v f) (hf : Bd b f) (hb : 0 ≤ b ∧ b ≤ 1000000000000) :
    Calls Try.prog 40 #[v] w fun e w' => e = .returned (.int .i64 (contL f)) ∧ Below w.heap.size w w' := by
  obtain ⟨a, cap, rfl, h1, h2⟩ := reads_nil_eq h
  have h64 := h.1
  obtain ⟨n, hn⟩ : ∃ n, f.length = n := ⟨_, rfl⟩
  rw [hn] at h h1 h64 ⊢
  have HN := Lib.hid hn
  have HR := Lib.hid h
  have HF := Lib.hid hf
  clear h h2 hn hf
  go_enter Try.func40, Try.ntmps40
  go_wp2
  go_loopw [3, 8] (fun d c wr => ∃ k : Nat, c = .int .i64 (k : Int) ∧ k ≤ n ∧ d = .int .i64 (contL (f.take k)) ∧ Below w.heap.size w wr) (fun _ c _ => n - (intOf c).toNat)
  case atStart => exact ⟨0, rfl, by omega, rfl, Below.refl _ _⟩
  case round =>
    obtain ⟨k, rfl, hk, rfl, hbel⟩ := hrel
    have HW := Lib.hid hbel
    clear hbel
    have HR1 := Lib.hid (HR.out.step HW.out)
    by_cases hlt : k < n
    · obtain ⟨b1, o1, rfl, hc⟩ := HR1.out.at (k := k) (by rw [HN.out]; exact hlt)
      have hbd := HF.out k
      have hcb := cont_bd hb.1 HF.out k
      have HG := Lib.hid (show (-1000000000000 ≤ contL (f.take k) ∧ contL (f.take k) ≤ 1000000000000) ∧ (-1000000000000 ≤ el f k ∧ el f k ≤ 1000000000000) by omega)
      have HE := Lib.hid (cont_next (f := f) (k := k) (by rw [HN.out]; exact hlt))
      go_wp2_with (go_at_call 55; with_reducible refine (gcdZ_any (contL (f.take k)) (el f k) _ HG.out.1 HG.out.2).mono ?_)
      rintro _ w1 ⟨rfl, hb1⟩
      rw [HE.out]
      have HB1 := Lib.hid (HW.out.trans (hb1.mono HW.out.size))
      clear hb1
      go_wp2
      go_roundw
      case rel => exact ⟨k + 1, by go_num, by omega, rfl, HB1.out⟩
      case measure => simp [intOf]; omega
    · have HE := Lib.hid (show f.take k = f from List.take_of_length_le (by rw [HN.out]; omega))
      go_wp2
      go_ret
      exact ⟨ret_int (by rw [HE.out]), HW.out⟩

/-! ### f at a + p y -/
def shN (m a p : Int) (out : List Int) (q : Nat) : Int := if q = 0 then el out 0 * a % m else (el out q * a % m + el out (q - 1) * p) % m
/-- Of the new numbers those from t on are there. -/
def midL (m a p : Int) (out : List Int) (t : Nat) : List Int := (List.range (out.length + 1)).map fun q => if t ≤ q then shN m a p out q else el out q
theorem mid_len (m a p : Int) (out : List Int) (t : Nat) : (midL m a p out t).length = out.length + 1 := by simp [midL]
theorem mid_el (m a p : Int) (out : List Int) (t q : Nat) : el (midL m a p out t) q = if t ≤ q then (if q ≤ out.length then shN m a p out q else 0) else el out q := by
  by_cases hq : q < out.length + 1
  · have : el (midL m a p out t) q = if t ≤ q then shN m a p out q else el out q := by simp [midL, el, hq]
    rw [this]
    split
    · rw [if_pos (by omega)]
    · rfl
  · rw [el_out (by rw [mid_len]; exact hq)]
    split
    · rw [if_neg (by omega)]
    · rw [el_out (by omega)]
theorem mid_start (m a p : Int) (out : List Int) : midL m a p out (out.length + 1) = out ++ [0] := by
  refine el_ext (by rw [mid_len]; simp) fun k hk => ?_
  rw [mid_len] at hk
  rw [mid_el, if_neg (by omega)]
  by_cases h : k < out.length
  · simp [el, List.getElem?_append_left h]
  · have : k = out.length := by omega
    subst this
    rw [el_out (by omega)]
    simp [el]
theorem mid_step (m a p : Int) (out : List Int) (k : Nat) (hk : k ≤ out.length) : (midL m a p out (k + 1)).set k (shN m a p out k) = midL m a p out k := by
  refine el_ext (by rw [List.length_set, mid_len, mid_len]) fun q hq => ?_
  rw [List.length_set, mid_len] at hq
  rw [el_set (by rw [mid_len]; omega), mid_el, mid_el]
  by_cases h : k = q
  · subst h
    rw [if_pos rfl, if_pos (Nat.le_refl _), if_pos hk]
  · rw [if_neg h]
    by_cases h2 : k + 1 ≤ q
    · simp only [if_pos h2]
      simp only [if_pos (show k ≤ q by omega), if_pos (show q ≤ out.length by omega)]
    · rw [if_neg h2, if_neg (by omega)]
theorem mid_end (m a p c : Int) (out : List Int) : (midL m a p out 0).set 0 ((el (midL m a p out 0) 0 + c % m) % m) = subStep m a p c out := by
  refine el_ext (by rw [List.length_set, mid_len]; simp [subStep]) fun q hq => ?_
  rw [List.length_set, mid_len] at hq
  rw [el_set (by rw [mid_len]; omega), mid_el, mid_el]
  have : el (subStep m a p c out) q = if q = 0 then (el out 0 * a % m + c % m) % m else (el out q * a % m + el out (q - 1) * p) % m := by simp [subStep, el, hq]
  rw [this]
  by_cases h : 0 = q
  · subst h; simp [shN]
  · rw [if_neg h, if_pos (Nat.zero_le _), if_pos (by omega), if_neg (by omega), shN, if_neg (by omega)]
theorem subStep_len (m a p c : Int) (out : List Int) : (subStep m a p c out).length = out.length + 1 := by simp [subStep]
theorem subL_len (m a p : Int) : ∀ f, (subL m a p f).length = f.length
  | [] => rfl
  | c :: f => by rw [subL, subStep_len, subL_len m a p f]; rfl
theorem subStep_in {m : Int} (hm : 1 ≤ m) (a p c : Int) (out : List Int) : In m (subStep m a p c out) := by
  intro q
  by_cases hq : q < out.length + 1
  · have : el (subStep m a p c out) q = if q = 0 then (el out 0 * a % m + c % m) % m else (el out q * a % m + el out (q - 1) * p) % m := by simp [subStep, el, hq]
    rw [this]
    split <;> exact emod_in _ hm
  · rw [el_out (by rw [subStep_len]; exact hq)]; omega
theorem subL_in {m : Int} (hm : 1 ≤ m) (a p : Int) : ∀ f, In m (subL m a p f)
  | [] => fun k => by rw [subL, el_nil']; omega
  | c :: f => by rw [subL]; exact subStep_in hm a p c _
theorem shN_num {m a p : Int} {out : List Int} (hm : 1 ≤ m ∧ m ≤ 1000000000) (hi : In m out) (ha : 0 ≤ a ∧ a ≤ 97) (hp : 0 ≤ p ∧ p ≤ 97) (q r : Nat) : (0 ≤ el out q * a ∧ el out q * a ≤ 97000000000) ∧ (0 ≤ el out q * a % m ∧ el out q * a % m < m) ∧ 0 ≤ el out r * p ∧ el out r * p ≤ 97000000000 := by
  have h1 := hi q
  have h2 := hi r
  have b1 := Int.mul_nonneg h1.1 ha.1
  have b2 := Int.mul_nonneg h2.1 hp.1
  have b3 := Int.mul_le_mul (show el out q ≤ 1000000000 by omega) ha.2 ha.1 (by omega)
  have b4 := Int.mul_le_mul (show el out r ≤ 1000000000 by omega) hp.2 hp.1 (by omega)
  exact ⟨⟨b1, by omega⟩, emod_in _ hm.1, b2, by omega⟩

set_option maxHeartbeats 8000000 in
theorem substituted_any {m a p : Int} {v : Value} {f : List Int} {w : World} (h : Reads w v f) (hf : Bd 1000000000 f) (hm : 1 ≤ m ∧ m ≤ 1000000000) (ha : 0 ≤ a ∧ a ≤ 97) (hp : 0 ≤ p ∧ p ≤ 97) (hl : f.length ≤ 1000) :
    Calls Try.prog 43 #[v, .int .i64 a, .int .i64 p, .int .i64 m] w (RetInts (subL m a p f) w) := by
  obtain ⟨ad, cap, rfl, h1, h2⟩ := reads_nil_eq h
  obtain ⟨n, hn⟩ : ∃ n, f.length = n := ⟨_, rfl⟩
  rw [hn] at h h1 hl ⊢
  have HN := Lib.hid hn
  have HR := Lib.hid h
  have HF := Lib.hid hf
  clear h h2 hn hf
  have hm0 : ¬ m = 0 := by omega
  go_enter Try.func43, Try.ntmps43
  go_wp2
  go_loopw [9, 10] (fun l c wr => ∃ (j : Nat) (K : Int), c = .int .i64 K ∧ K + j + 1 = n ∧ j ≤ n ∧ Own wr w.heap.size l (subL m a p (f.drop (n - j))) ∧ Below w.heap.size w wr) (fun _ c _ => (intOf c + 1).toNat)
  case atStart => exact ⟨0, (n : Int) - 1, rfl, by omega, by omega, by rw [List.drop_of_length_le (by rw [HN.out]; omega)]; exact Own.nil, Below.refl _ _⟩
  case round =>
    obtain ⟨j, K, rfl, hK, hjn, hown, hbel⟩ := hrel
    by_cases hlt : j < n
    · obtain ⟨i, rfl⟩ : ∃ i : Nat, K = (i : Int) := ⟨n - 1 - j, by omega⟩
      obtain ⟨L, hL⟩ : ∃ L, subL m a p (f.drop (n - j)) = L := ⟨_, rfl⟩
      have HJ := Lib.hid (show L.length = j by rw [← hL, subL_len, List.length_drop, HN.out]; omega)
      have HI := Lib.hid (show In m L by rw [← hL]; exact subL_in hm.1 a p _)
      have HT := Lib.hid (show subL m a p (f.drop (n - (j + 1))) = subStep m a p (el f i) L by
        rw [show n - (j + 1) = i by omega, drop_next (by rw [HN.out]; omega), subL, ← hL]
        congr 2
        rw [show n - j = i + 1 by omega])
      rw [hL] at hown
      have HO := Lib.hid hown
      have HW := Lib.hid hbel
      have HK := Lib.hid hK
      have hi0 : i + j + 1 = n := by omega
      clear hown hbel hL hK
      have hLL : L.length + 1 ≤ 1099511627776 := by rw [HJ.out]; omega
      go_wp2_with (at_builtin; refine append_one _ rfl _ _ rfl rfl HO.out hLL HW.out.size rfl ?_)
      intro vv w1 hown1 hbel1
      rw [← mid_start m a p, HJ.out] at hown1
      obtain ⟨g, cc, e1, hg1, hg2, hcc, hcm⟩ := hown1.head (by rw [mid_len]; omega)
      rw [mid_len, HJ.out] at e1 hcc
      subst e1
      have HO1 := Lib.hid hown1
      have HB1 := Lib.hid (HW.out.trans hbel1)
      clear hown1 hbel1 HO HW
      go_wp2
      go_loopw [11] (fun c wr => ∃ (t : Nat) (K : Int), c = .int .i64 K ∧ K + 1 = t ∧ t ≤ j + 1 ∧ Own wr w.heap.size (.slice (some ⟨g, 0, none⟩) (j + 1) cc) (midL m a p L t) ∧ Below w.heap.size w wr) (fun c _ => (intOf c + 1).toNat)
      case atStart => exact ⟨j + 1, (j : Int), by go_num, by omega, by omega, HO1.out, HB1.out⟩
      case round =>
        clear HO1 HB1
        obtain ⟨t, K, rfl, hK, ht, hown, hbel⟩ := hrel
        have HO := Lib.hid hown
        have HW := Lib.hid hbel
        clear hown hbel
        by_cases h0 : 0 < t
        · obtain ⟨k, rfl⟩ : ∃ k : Nat, t = k + 1 := ⟨t - 1, by omega⟩
          obtain rfl : K = (k : Int) := by omega
          clear hK
          have y3 := (HO.out.lt g rfl).2
          have hk1 : k ≤ j := by omega
          have f1 := HO.out.cellAt (i := k) (by rw [mid_len, HJ.out]; omega)
          rw [mid_el, if_neg (by omega)] at f1
          have f2 := HO.out.frozenAt k
          obtain ⟨⟨q1, q2⟩, ⟨q3, q4⟩, q5, q6⟩ := shN_num hm HI.out ha hp k (k - 1)
          by_cases hk0 : 0 < k
          · obtain ⟨k', rfl⟩ : ∃ k' : Nat, k = k' + 1 := ⟨k - 1, by omega⟩
            go_wp2
            obtain ⟨s1, s2⟩ := HO.out.stored (k' + 1) (el L (k' + 1) * a % m)
            have HO2 := Lib.hid s1
            have HW2 := Lib.hid (HW.out.setCell (p := ⟨g, k' + 1, none⟩) hg1 (.int .i64 (el L (k' + 1) * a % m)))
            have y4 : g < (wr.setCell ⟨g, k' + 1, none⟩ (.int .i64 (el L (k' + 1) * a % m))).heap.size := by simpa using y3
            clear s1 s2 HO HW f1 f2 y3
            generalize wr.setCell ⟨g, k' + 1, none⟩ (.int .i64 (el L (k' + 1) * a % m)) = w2 at *
            have f3 := HO2.out.cellAt (i := k' + 1) (by rw [List.length_set, mid_len, HJ.out]; omega)
            rw [el_set (by rw [mid_len, HJ.out]; omega), if_pos rfl] at f3
            have f4 := HO2.out.cellAt (i := k') (by rw [List.length_set, mid_len, HJ.out]; omega)
            rw [el_set (by rw [mid_len, HJ.out]; omega), if_neg (by omega), mid_el, if_neg (by omega)] at f4
            have f5 := HO2.out.frozenAt (k' + 1)
            rw [Nat.add_sub_cancel] at q5 q6
            go_wp2_with (first | (refine wp_region_wext_tail 17 (by kernel_rfl) (by kernel_rfl) ?_; simp only [List.take_succ_cons, List.take_zero, List.drop_succ_cons, List.drop_zero]; (repeat (go_big_quiet_step (first | fail))); refine wpQuiet_nil ?_; intro w1_hbq hbq; replace hbq := below_of_wext hbq; obtain ⟨chbq, fhbq, shbq⟩ := bfacts2 hbq; (try simp at shbq)) | (refine wp_region_wext (by kernel_rfl) (by kernel_rfl) ?_; (repeat (go_big_quiet_step (first | fail))); refine wpQuiet_nil ?_; intro w1_hbq hbq; replace hbq := below_of_wext hbq; obtain ⟨chbq, fhbq, shbq⟩ := bfacts2 hbq; (try simp at shbq)))
            obtain ⟨g1', g2'⟩ := (HO2.out.step hbq).stored (k' + 1) ((el L (k' + 1) * a % m + el L k' * p) % m)
            go_roundw
            case rel => exact ⟨k' + 1, (k' : Int), by go_num, by omega, by omega, by rw [List.set_set] at g1'; rw [← mid_step m a p L (k' + 1) (by rw [HJ.out]; omega), shN, if_neg (by omega), Nat.add_sub_cancel]; simp only [Int.emod_add_emod] at g1' ⊢; exact g1', (HW2.out.trans (hbq.mono HW2.out.size)).setCell (p := ⟨g, k' + 1, none⟩) hg1 _⟩
            case measure => first | (simp [intOf]; done) | (simp [intOf]; omega)
          · obtain rfl : k = 0 := by omega
            go_wp2
            obtain ⟨s1, s2⟩ := HO.out.stored 0 (el L 0 * a % m)
            go_roundw
            case rel => exact ⟨0, -1, by go_num, by omega, by omega, by rw [← mid_step m a p L 0 (Nat.zero_le _), shN, if_pos rfl]; exact s1, HW.out.setCell (p := ⟨g, 0, none⟩) hg1 _⟩
            case measure => first | (simp [intOf]; done) | (simp [intOf]; omega)
        · obtain rfl : t = 0 := by omega
          obtain rfl : K = -1 := by omega
          clear hK
          have y3 := (HO.out.lt g rfl).2
          have f1 := HO.out.cellAt (i := 0) (by rw [mid_len]; omega)
          have f2 := HO.out.frozenAt 0
          obtain ⟨b1, o1, rfl, hc⟩ := (HR.out.step HW.out).at (k := i) (by rw [HN.out]; exact (show i < n by omega))
          have y5 := (HR.out.step HW.out).lt (by rw [HN.out]; omega)
          obtain ⟨_, ⟨q3, q4⟩, _⟩ := shN_num hm HI.out ha hp 0 0
          have hm0 : el (midL m a p L 0) 0 = el L 0 * a % m := by rw [mid_el, if_pos (Nat.le_refl _), if_pos (Nat.zero_le _), shN, if_pos rfl]
          rw [hm0] at f1
          have hb := HF.out i
          have hem := emod_in (el f i) hm.1
          go_wp2_with (first | (go_at_call 35; ((with_reducible refine (mod_any (el f i) _ _ (by omega) (by omega)).mono ?_); rintro e w' ⟨rfl, rfl⟩)) | (go_at_call 35; ((with_reducible refine (mod_any _ _ _ (by omega) (by omega)).mono ?_); rintro e w' ⟨rfl, rfl⟩)) | (refine wp_region_wext_tail 14 (by kernel_rfl) (by kernel_rfl) ?_; simp only [List.take_succ_cons, List.take_zero, List.drop_succ_cons, List.drop_zero]; (repeat (go_big_quiet_step (first | (go_at_call 35; with_reducible refine calls_wext_same (mod_any (el f i) _ _ (by omega) (by omega))) | (go_at_call 35; with_reducible refine calls_wext_same (mod_any _ _ _ (by omega) (by omega)))))); refine wpQuiet_nil ?_; intro w1_hbq hbq; replace hbq := below_of_wext hbq; obtain ⟨chbq, fhbq, shbq⟩ := bfacts2 hbq; (try simp at shbq)) | (refine wp_region_wext (by kernel_rfl) (by kernel_rfl) ?_; (repeat (go_big_quiet_step (first | (go_at_call 35; with_reducible refine calls_wext_same (mod_any (el f i) _ _ (by omega) (by omega))) | (go_at_call 35; with_reducible refine calls_wext_same (mod_any _ _ _ (by omega) (by omega)))))); refine wpQuiet_nil ?_; intro w1_hbq hbq; replace hbq := below_of_wext hbq; obtain ⟨chbq, fhbq, shbq⟩ := bfacts2 hbq; (try simp at shbq)))
          obtain ⟨g1', g2'⟩ := (HO.out.step hbq).stored 0 ((el L 0 * a % m + el f i % m) % m)
          rw [← hm0, mid_end, ← HT.out] at g1'
          go_roundw
          case rel => exact ⟨j + 1, (i : Int) - 1, by go_num, by omega, by omega, by simp only [hm0, Int.emod_add_emod, Int.add_emod_emod] at g1'; exact g1', (HW.out.trans (hbq.mono HW.out.size)).setCell (p := ⟨g, 0, none⟩) hg1 _⟩
          case measure => first | (simp [intOf]; done) | (simp [intOf]; omega)
    · have hK0 : K = -1 := by omega
      obtain rfl : j = n := by omega
      subst hK0
      have HO := Lib.hid (show Own wr w.heap.size u9 (subL m a p f) by rw [Nat.sub_self, List.drop_zero] at hown; exact hown)
      have HW := Lib.hid hbel
      clear hown hbel
      go_wp2
      go_ret
      exact ⟨_, rfl, HO.out, HW.out⟩

end Go.Proofs.Ytdkppikbneijaaa
