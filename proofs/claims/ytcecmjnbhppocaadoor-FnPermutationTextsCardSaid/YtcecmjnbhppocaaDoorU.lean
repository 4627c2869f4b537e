/- Contracts: permutations. -/
import Derived.Test.YtcecmjnbhppocaaDoorS
import Derived.Deep.RegionLaw
namespace Go.Proofs.YtcecmjnbhppocaaDoor
open Go.RowKit
set_option linter.unusedVariables false
set_option linter.unusedSimpArgs false

/-- Place k holds a number of the list's range that stands at no earlier place. -/
def permAt (zs : List Int) (k : Nat) : Bool := inB (el zs k) 0 ((zs.length : Int) - 1) && !hasL (zs.take k) (el zs k)
def permB (zs : List Int) : Bool := (List.range zs.length).all (permAt zs) && inB zs.length 1 6
theorem permB_no {zs : List Int} {k : Nat} (hk : k < zs.length) (h : permAt zs k = false) : permB zs = false := by
  rw [Bool.eq_false_iff]
  intro hp
  simp only [permB, Bool.and_eq_true, List.all_eq_true] at hp
  have := hp.1 k (List.mem_range.2 hk)
  rw [h] at this
  cases this
theorem permB_yes {zs : List Int} (h : ∀ j, j < zs.length → permAt zs j = true) : permB zs = inB zs.length 1 6 := by
  have : (List.range zs.length).all (permAt zs) = true := by
    rw [List.all_eq_true]
    exact fun x hx => h x (List.mem_range.1 hx)
  simp [permB, this]
theorem permAt_true {zs : List Int} {k : Nat} (h : inB (el zs k) 0 ((zs.length : Int) - 1) = true) (h2 : hasL (zs.take k) (el zs k) = false) : permAt zs k = true := by simp [permAt, h, h2]

set_option maxHeartbeats 2000000 in
theorem IsPermutation_any {v : Value} {zs : List Int} {w : World} (h : Reads w v zs) :
    Calls Tryd.prog 20 #[v] w fun e w' => e = .returned (.bool (permB zs)) ∧ w = w' := by
  have HR := Lib.hid h
  obtain ⟨hL, a, cap, rfl, hcap, hmax, hcell⟩ := h
  have HC := Lib.hid hcell
  clear hcell
  go_enter Tryd.func20, Tryd.ntmps20
  go_wp2
  go_loop [7] (fun c => ∃ k : Nat, c = .int .i64 (k : Int) ∧ k ≤ zs.length ∧ Hid (∀ j, j < k → permAt zs j = true)) (fun c => zs.length - (intOf c).toNat)
  case atStart => exact ⟨0, rfl, by omega, Lib.hid (fun j hj => by omega)⟩
  case round =>
    obtain ⟨k, rfl, hk, HA⟩ := hrel
    by_cases hlt : k < zs.length
    · obtain ⟨b, o, rfl, hb, hc⟩ := HC.out (by omega)
      have f1 := hc k hlt
      clear hc
      rcases Bool.eq_false_or_eq_true (inB (el zs k) 0 ((zs.length : Int) - 1)) with hi | hi
      · rcases Bool.eq_false_or_eq_true (hasL (zs.take k) (el zs k)) with hh | hh
        · have HI := Lib.hid hi; have HH := Lib.hid hh; clear hi hh
          go_wp2_with (first | (go_at_call 39; ((with_reducible refine (size_int64_any HR.out).mono ?_); rintro e w' ⟨rfl, rfl⟩)) | (go_at_call 38; ((with_reducible refine (calls_bool (within_any _ _ _ _) HI.out).mono ?_); rintro e w' ⟨rfl, rfl⟩)) | (go_at_call 40; ((with_reducible refine (calls_bool (contains_any _ (HR.out.take hk)) HH.out).mono ?_); rintro e w' ⟨rfl, rfl⟩)) | (refine wp_region_wext (by kernel_rfl) (by kernel_rfl) ?_; (repeat (go_big_quiet_step (first | (go_at_call 39; with_reducible refine calls_wext_same (size_int64_any HR.out)) | (go_at_call 38; with_reducible refine calls_wext_same (calls_bool (within_any _ _ _ _) HI.out)) | (go_at_call 40; with_reducible refine calls_wext_same (calls_bool (contains_any _ (HR.out.take hk)) HH.out))))); refine wpQuiet_nil ?_; intro w1_hbq hbq; replace hbq := below_of_wext hbq; obtain ⟨chbq, fhbq, shbq⟩ := bfacts2 hbq; (try simp at shbq)))
          go_ret
          exact ⟨ret_bool (permB_no hlt (by simp [permAt, HI.out, HH.out])).symm, rfl⟩
        · have HI := Lib.hid hi; have HH := Lib.hid hh; clear hi hh
          go_wp2_with (first | (go_at_call 39; ((with_reducible refine (size_int64_any HR.out).mono ?_); rintro e w' ⟨rfl, rfl⟩)) | (go_at_call 38; ((with_reducible refine (calls_bool (within_any _ _ _ _) HI.out).mono ?_); rintro e w' ⟨rfl, rfl⟩)) | (go_at_call 40; ((with_reducible refine (calls_bool (contains_any _ (HR.out.take hk)) HH.out).mono ?_); rintro e w' ⟨rfl, rfl⟩)) | (refine wp_region_wext (by kernel_rfl) (by kernel_rfl) ?_; (repeat (go_big_quiet_step (first | (go_at_call 39; with_reducible refine calls_wext_same (size_int64_any HR.out)) | (go_at_call 38; with_reducible refine calls_wext_same (calls_bool (within_any _ _ _ _) HI.out)) | (go_at_call 40; with_reducible refine calls_wext_same (calls_bool (contains_any _ (HR.out.take hk)) HH.out))))); refine wpQuiet_nil ?_; intro w1_hbq hbq; replace hbq := below_of_wext hbq; obtain ⟨chbq, fhbq, shbq⟩ := bfacts2 hbq; (try simp at shbq)))
          go_round
          case rel => exact ⟨k + 1, by go_num, by omega, Lib.hid (fun j hj => by by_cases hj2 : j = k; { subst hj2; exact permAt_true HI.out HH.out }; { exact HA.out j (by omega) })⟩
          case measure => simp [intOf]; omega
      · have HI := Lib.hid hi; clear hi
        go_wp2_with (first | (go_at_call 39; ((with_reducible refine (size_int64_any HR.out).mono ?_); rintro e w' ⟨rfl, rfl⟩)) | (go_at_call 38; ((with_reducible refine (calls_bool (within_any _ _ _ _) HI.out).mono ?_); rintro e w' ⟨rfl, rfl⟩)) | (refine wp_region_wext (by kernel_rfl) (by kernel_rfl) ?_; (repeat (go_big_quiet_step (first | (go_at_call 39; with_reducible refine calls_wext_same (size_int64_any HR.out)) | (go_at_call 38; with_reducible refine calls_wext_same (calls_bool (within_any _ _ _ _) HI.out))))); refine wpQuiet_nil ?_; intro w1_hbq hbq; replace hbq := below_of_wext hbq; obtain ⟨chbq, fhbq, shbq⟩ := bfacts2 hbq; (try simp at shbq)))
        go_ret
        exact ⟨ret_bool (permB_no hlt (by simp [permAt, HI.out])).symm, rfl⟩
    · obtain rfl : k = zs.length := by omega
      go_wp2_with (first | (go_at_call 39; ((with_reducible refine (size_int64_any HR.out).mono ?_); rintro e w' ⟨rfl, rfl⟩)) | (go_at_call 38; ((with_reducible refine (within_any _ _ _ _).mono ?_); rintro e w' ⟨rfl, rfl⟩)) | (refine wp_region_wext (by kernel_rfl) (by kernel_rfl) ?_; (repeat (go_big_quiet_step (first | (go_at_call 39; with_reducible refine calls_wext_same (size_int64_any HR.out)) | (go_at_call 38; with_reducible refine calls_wext_same (within_any _ _ _ _))))); refine wpQuiet_nil ?_; intro w1_hbq hbq; replace hbq := below_of_wext hbq; obtain ⟨chbq, fhbq, shbq⟩ := bfacts2 hbq; (try simp at shbq)))
      go_ret
      exact ⟨ret_bool (permB_yes HA.out).symm, rfl⟩

set_option maxHeartbeats 2000000 in
theorem sIsPermutation_any {v : Value} {zs : List Int} {w : World} (h : Reads w v zs) :
    Calls Tryd.prog 18 #[v] w fun e w' => e = .returned (.bool (permB zs)) ∧ Below w.heap.size w w' := by
  have HR := Lib.hid h
  obtain ⟨hL, a, cap, rfl, hcap, hmax, hcell⟩ := h
  have HC := Lib.hid hcell
  clear hcell
  go_enter Tryd.func18, Tryd.ntmps18
  go_wp2
  go_loopw [3] (fun c wr => ∃ k : Nat, c = .int .i64 (k : Int) ∧ k ≤ zs.length ∧ Hid (∀ j, j < k → permAt zs j = true) ∧ Below w.heap.size w wr) (fun c _ => zs.length - (intOf c).toNat)
  case atStart => exact ⟨0, rfl, by omega, Lib.hid (fun j hj => by omega), Below.refl _ _⟩
  case round =>
    obtain ⟨k, rfl, hk, HA, hbel⟩ := hrel
    have HB := Lib.hid hbel
    clear hbel
    by_cases hlt : k < zs.length
    · have HR2 := Lib.hid ((HR.out.step HB.out).take hk)
      obtain ⟨b, o, rfl, hb, hc⟩ := HC.out (by omega)
      have f1 : wr.cell? ⟨b, o + k, none⟩ = some (.int .i64 (el zs k)) := by rw [HB.out.cell (p := ⟨b, o + k, none⟩) hb]; exact hc k hlt
      have f3 : b < wr.heap.size := by have := HB.out.size; omega
      clear hc
      have HR3 : ∀ x, Reads (wext wr x) (.slice (some ⟨b, o, none⟩) k cap) (zs.take k) := fun x => HR2.out.step (wext_below wr x)
      rcases Bool.eq_false_or_eq_true (inB (el zs k) 0 ((zs.length : Int) - 1)) with hi | hi
      · rcases Bool.eq_false_or_eq_true (hasL (zs.take k) (el zs k)) with hh | hh
        · have HI := Lib.hid hi; have HH := Lib.hid hh; clear hi hh
          go_wp2_with (first | (go_at_call 24; ((with_reducible refine (calls_bool (l01In_any _ _ _ _) HI.out).mono ?_); rintro e w' ⟨rfl, rfl⟩)) | (go_at_call 34; ((with_reducible refine (calls_bool (l01Has_any _ (HR3 _)) HH.out).mono ?_); rintro e w' ⟨rfl, rfl⟩)) | (refine wp_region_wext (by kernel_rfl) (by kernel_rfl) ?_; (repeat (go_big_quiet_step (first | (go_at_call 24; with_reducible refine calls_wext_same (calls_bool (l01In_any _ _ _ _) HI.out)) | (go_at_call 34; with_reducible refine calls_wext_same (calls_bool (l01Has_any _ (HR3 _)) HH.out))))); refine wpQuiet_nil ?_; intro w1_hbq hbq; replace hbq := below_of_wext hbq; obtain ⟨chbq, fhbq, shbq⟩ := bfacts2 hbq; (try simp at shbq)))
          go_ret
          exact ⟨ret_bool (permB_no hlt (by simp [permAt, HI.out, HH.out])).symm, HB.out.trans ((by assumption : Below wr.heap.size wr _).mono HB.out.size)⟩
        · have HI := Lib.hid hi; have HH := Lib.hid hh; clear hi hh
          go_wp2_with (first | (go_at_call 24; ((with_reducible refine (calls_bool (l01In_any _ _ _ _) HI.out).mono ?_); rintro e w' ⟨rfl, rfl⟩)) | (go_at_call 34; ((with_reducible refine (calls_bool (l01Has_any _ (HR3 _)) HH.out).mono ?_); rintro e w' ⟨rfl, rfl⟩)) | (refine wp_region_wext (by kernel_rfl) (by kernel_rfl) ?_; (repeat (go_big_quiet_step (first | (go_at_call 24; with_reducible refine calls_wext_same (calls_bool (l01In_any _ _ _ _) HI.out)) | (go_at_call 34; with_reducible refine calls_wext_same (calls_bool (l01Has_any _ (HR3 _)) HH.out))))); refine wpQuiet_nil ?_; intro w1_hbq hbq; replace hbq := below_of_wext hbq; obtain ⟨chbq, fhbq, shbq⟩ := bfacts2 hbq; (try simp at shbq)))
          go_roundw
          case rel => exact ⟨k + 1, by go_num, by omega, Lib.hid (fun j hj => by by_cases hj2 : j = k; { subst hj2; exact permAt_true HI.out HH.out }; { exact HA.out j (by omega) }), HB.out.trans ((by assumption : Below wr.heap.size wr _).mono HB.out.size)⟩
          case measure => simp [intOf]; omega
      · have HI := Lib.hid hi; clear hi
        go_wp2_with (first | (go_at_call 24; ((with_reducible refine (calls_bool (l01In_any _ _ _ _) HI.out).mono ?_); rintro e w' ⟨rfl, rfl⟩)) | (refine wp_region_wext (by kernel_rfl) (by kernel_rfl) ?_; (repeat (go_big_quiet_step (first | (go_at_call 24; with_reducible refine calls_wext_same (calls_bool (l01In_any _ _ _ _) HI.out))))); refine wpQuiet_nil ?_; intro w1_hbq hbq; replace hbq := below_of_wext hbq; obtain ⟨chbq, fhbq, shbq⟩ := bfacts2 hbq; (try simp at shbq)))
        go_ret
        exact ⟨ret_bool (permB_no hlt (by simp [permAt, HI.out])).symm, HB.out.trans ((by assumption : Below wr.heap.size wr _).mono HB.out.size)⟩
    · obtain rfl : k = zs.length := by omega
      go_wp2_with (first | (go_at_call 24; ((with_reducible refine (l01In_any _ _ _ _).mono ?_); rintro e w' ⟨rfl, rfl⟩)) | (refine wp_region_wext (by kernel_rfl) (by kernel_rfl) ?_; (repeat (go_big_quiet_step (first | (go_at_call 24; with_reducible refine calls_wext_same (l01In_any _ _ _ _))))); refine wpQuiet_nil ?_; intro w1_hbq hbq; replace hbq := below_of_wext hbq; obtain ⟨chbq, fhbq, shbq⟩ := bfacts2 hbq; (try simp at shbq)))
      go_ret
      exact ⟨ret_bool (permB_yes HA.out).symm, HB.out⟩

theorem permB_bd {zs : List Int} (h : permB zs = true) : 1 ≤ zs.length ∧ zs.length ≤ 6 ∧ ∀ k, k < zs.length → 0 ≤ el zs k ∧ el zs k < zs.length := by
  simp only [permB, Bool.and_eq_true, List.all_eq_true] at h
  obtain ⟨h1, h2⟩ := h
  have h3 := inB_iff.1 h2
  refine ⟨by omega, by omega, fun k hk => ?_⟩
  have h4 := h1 k (List.mem_range.2 hk)
  simp only [permAt, Bool.and_eq_true] at h4
  have := inB_iff.1 h4.1
  omega

/-- The inverse, filled in up to place k. -/
def invN (zs : List Int) : Nat → List Int
  | 0 => List.replicate zs.length 0
  | k + 1 => (invN zs k).set (el zs k).toNat k
theorem invN_len (zs : List Int) : ∀ k, (invN zs k).length = zs.length
  | 0 => by simp [invN]
  | k + 1 => by rw [invN, List.length_set, invN_len zs k]
def invL (zs : List Int) : List Int := invN zs zs.length

/-- The product's first k numbers. -/
def prodN (a b : List Int) : Nat → List Int
  | 0 => []
  | k + 1 => prodN a b k ++ [el a (el b k).toNat]
theorem prodN_len (a b : List Int) : ∀ k, (prodN a b k).length = k
  | 0 => rfl
  | k + 1 => by rw [prodN, List.length_append, prodN_len a b k]; rfl
def prodL (a b : List Int) : List Int := prodN a b b.length

/-- How many places between k and j hold less than place k. -/
def lessN (zs : List Int) (k : Nat) : Nat → Int
  | 0 => 0
  | i + 1 => lessN zs k i + if el zs (k + 1 + i) < el zs k then 1 else 0
theorem lessN_bd (zs : List Int) (k : Nat) : ∀ i, 0 ≤ lessN zs k i ∧ lessN zs k i ≤ i
  | 0 => by simp [lessN]
  | i + 1 => by have := lessN_bd zs k i; simp only [lessN]; split <;> omega
def rankN (zs : List Int) : Nat → Int
  | 0 => 0
  | k + 1 => rankN zs k * ((zs.length : Int) - k) + lessN zs k (zs.length - (k + 1))
def rankL (zs : List Int) : Int := rankN zs zs.length
theorem rankN_bd {zs : List Int} (hn : zs.length ≤ 6) : ∀ k, k ≤ zs.length → 0 ≤ rankN zs k ∧ rankN zs k ≤ 8 ^ k - 1
  | 0, _ => by simp [rankN]
  | k + 1, hk => by
    obtain ⟨h1, h2⟩ := rankN_bd hn k (by omega)
    have h3 := lessN_bd zs k (zs.length - (k + 1))
    have h4 : 0 ≤ rankN zs k * ((zs.length : Int) - k) := Int.mul_nonneg h1 (by omega)
    have h5 : rankN zs k * ((zs.length : Int) - k) ≤ rankN zs k * 6 := Int.mul_le_mul_of_nonneg_left (by omega) h1
    have h6 : (0 : Int) < 8 ^ k := Int.pow_pos (by decide)
    rw [rankN, Int.pow_succ]
    omega
theorem rankN_bd6 {zs : List Int} (hn : zs.length ≤ 6) {k : Nat} (hk : k ≤ zs.length) : 0 ≤ rankN zs k ∧ rankN zs k ≤ 300000 := by
  obtain ⟨h1, h2⟩ := rankN_bd hn k hk
  have : (8 : Int) ^ k ≤ 8 ^ 6 := by
    have : (8 : Nat) ^ k ≤ 8 ^ 6 := Nat.pow_le_pow_right (by decide) (by omega)
    exact_mod_cast this
  omega

end Go.Proofs.YtcecmjnbhppocaaDoor
