/- Contracts: Eisenstein polynomials and their differents. -/
import Derived.Test.YtlndfjplhfgicaaOe
import Derived.Test.YtlndfjplhfgicaaD
import Derived.Test.YtlndfjplhfgicaaG
namespace Go.Proofs.Ytlndfjplhfgicaa
open Go.RowKit
set_option linter.unusedVariables false
set_option linter.unusedSimpArgs false

def monB (f : List Int) : Bool := decide (2 ≤ f.length) && (el f (f.length - 1) == 1)
def extC (p : Int) (f : List Int) : Int := if smallB p then if polyB f then if monB f then 0 else 5 else 1 else 1
def eisB (p : Int) (f : List Int) : Bool := (List.range (f.length - 1)).all (fun i => el f i % p == 0) && (el f 0 % (p * p) != 0)
def ownC (p : Int) (f : List Int) : Int := if extC p f = 0 then if eisB p f then 0 else 4 else extC p f
theorem ext_ok {p : Int} {f : List Int} (h : extC p f = 0) : smallB p = true ∧ polyB f = true ∧ monB f = true := by
  unfold extC at h
  by_cases h1 : smallB p = true
  · rw [if_pos h1] at h
    by_cases h2 : polyB f = true
    · rw [if_pos h2] at h
      by_cases h3 : monB f = true
      · exact ⟨h1, h2, h3⟩
      · rw [if_neg h3] at h; cases h
    · rw [if_neg h2] at h; cases h
  · rw [if_neg h1] at h; cases h
theorem mon_ok {f : List Int} (h : monB f = true) : 2 ≤ f.length ∧ el f (f.length - 1) = 1 := by
  simpa [monB] using h

theorem degree_any {v : Value} {f : List Int} {w : World} (h : Reads w v f) :
    Calls Try.prog 136 #[v] w fun e w' => e = .returned (.int .i64 ((f.length : Int) - 1)) ∧ w = w' := by
  have HR := Lib.hid h
  have hl := h.1
  clear h
  go_enter Try.func136, Try.ntmps136
  go_wp2_with (go_at_call 151; ((with_reducible refine (size_int64_any HR.out).mono ?_); rintro e w' ⟨rfl, rfl⟩))
  go_ret
  exact ⟨rfl, rfl⟩
theorem isMonic_any {v : Value} {f : List Int} {w : World} (h : Reads w v f) :
    Calls Try.prog 185 #[v] w fun e w' => e = .returned (.bool (decide (0 < f.length) && (el f (f.length - 1) == 1))) ∧ w = w' := by
  obtain ⟨a, cap, rfl, h1, h2⟩ := reads_nil_eq h
  obtain ⟨n, hn⟩ : ∃ n, f.length = n := ⟨_, rfl⟩
  rw [hn] at h h1 ⊢
  have HR := Lib.hid h
  have hl := h.1
  rw [hn] at hl
  by_cases h0 : 0 < n
  · obtain ⟨b, o, rfl, hc⟩ := h.at (k := n - 1) (by omega)
    have hd : decide (0 < n) = true := by simpa using h0
    rw [hd]
    clear h h2 hn hd
    go_enter Try.func185, Try.ntmps185
    go_wp2
    go_ret
    exact ⟨ret_bool (by simp), rfl⟩
  · obtain rfl : n = 0 := by omega
    clear h h2 hn
    go_enter Try.func185, Try.ntmps185
    go_wp2
    go_ret
    exact ⟨ret_bool (by simp), rfl⟩

set_option maxHeartbeats 1000000 in
theorem extending_any {p : Int} {v : Value} {f : List Int} {w : World} (h : Reads w v f) :
    Calls Try.prog 139 #[.int .i64 p, v] w fun e w' => e = .returned (.int .i64 (extC p f)) ∧ w = w' := by
  have HR := Lib.hid h
  have hl := h.1
  clear h
  rcases Bool.eq_false_or_eq_true (smallB p) with hs | hs
  · have HS := Lib.hid hs
    rcases Bool.eq_false_or_eq_true (polyB f) with hp | hp
    · have HP := Lib.hid hp
      rcases Bool.eq_false_or_eq_true (monB f) with hm | hm
      · obtain ⟨m1, m2⟩ := mon_ok hm
        have HM := Lib.hid (show (decide (0 < f.length) && (el f (f.length - 1) == 1)) = true by rw [m2, decide_eq_true (show 0 < f.length by omega)]; rfl)
        have HC := Lib.hid (show extC p f = 0 by rw [extC, if_pos hs, if_pos hp, if_pos hm])
        have hlt : 1 ≤ (f.length : Int) - 1 := by omega
        clear hs hp hm m2
        go_enter Try.func139, Try.ntmps139
        go_wp2_with (first | (go_at_call 85; ((with_reducible refine (calls_bool (isSmallPrime_any _ _) HS.out).mono ?_); rintro e w' ⟨rfl, rfl⟩)) | (go_at_call 107; ((with_reducible refine (calls_bool (IsPolynomial_any HR.out) HP.out).mono ?_); rintro e w' ⟨rfl, rfl⟩)) | (go_at_call 185; ((with_reducible refine (calls_bool (isMonic_any HR.out) HM.out).mono ?_); rintro e w' ⟨rfl, rfl⟩)) | (go_at_call 136; ((with_reducible refine (degree_any HR.out).mono ?_); rintro e w' ⟨rfl, rfl⟩)))
        go_ret
        exact ⟨ret_int HC.out.symm, rfl⟩
      · have HC := Lib.hid (show extC p f = 5 by rw [extC, if_pos hs, if_pos hp, if_neg (by rw [hm]; simp)])
        rcases Bool.eq_false_or_eq_true (decide (0 < f.length) && (el f (f.length - 1) == 1)) with hk | hk
        · have HM := Lib.hid hk
          have hlt : (f.length : Int) - 1 < 1 := by
            simp [monB] at hm hk
            apply Decidable.byContradiction
            intro hh
            exact hm (by omega) hk.2
          clear hs hp hm hk
          go_enter Try.func139, Try.ntmps139
          go_wp2_with (first | (go_at_call 85; ((with_reducible refine (calls_bool (isSmallPrime_any _ _) HS.out).mono ?_); rintro e w' ⟨rfl, rfl⟩)) | (go_at_call 107; ((with_reducible refine (calls_bool (IsPolynomial_any HR.out) HP.out).mono ?_); rintro e w' ⟨rfl, rfl⟩)) | (go_at_call 185; ((with_reducible refine (calls_bool (isMonic_any HR.out) HM.out).mono ?_); rintro e w' ⟨rfl, rfl⟩)) | (go_at_call 136; ((with_reducible refine (degree_any HR.out).mono ?_); rintro e w' ⟨rfl, rfl⟩)))
          go_ret
          exact ⟨ret_int HC.out.symm, rfl⟩
        · have HM := Lib.hid hk
          clear hs hp hm hk
          go_enter Try.func139, Try.ntmps139
          go_wp2_with (first | (go_at_call 85; ((with_reducible refine (calls_bool (isSmallPrime_any _ _) HS.out).mono ?_); rintro e w' ⟨rfl, rfl⟩)) | (go_at_call 107; ((with_reducible refine (calls_bool (IsPolynomial_any HR.out) HP.out).mono ?_); rintro e w' ⟨rfl, rfl⟩)) | (go_at_call 185; ((with_reducible refine (calls_bool (isMonic_any HR.out) HM.out).mono ?_); rintro e w' ⟨rfl, rfl⟩)) | (go_at_call 136; ((with_reducible refine (degree_any HR.out).mono ?_); rintro e w' ⟨rfl, rfl⟩)))
          go_ret
          exact ⟨ret_int HC.out.symm, rfl⟩
    · have HP := Lib.hid hp
      have HC := Lib.hid (show extC p f = 1 by rw [extC, if_pos hs, if_neg (by rw [hp]; simp)])
      clear hs hp
      go_enter Try.func139, Try.ntmps139
      go_wp2_with (first | (go_at_call 85; ((with_reducible refine (calls_bool (isSmallPrime_any _ _) HS.out).mono ?_); rintro e w' ⟨rfl, rfl⟩)) | (go_at_call 107; ((with_reducible refine (calls_bool (IsPolynomial_any HR.out) HP.out).mono ?_); rintro e w' ⟨rfl, rfl⟩)))
      go_ret
      exact ⟨ret_int HC.out.symm, rfl⟩
  · have HS := Lib.hid hs
    have HC := Lib.hid (show extC p f = 1 by rw [extC, if_neg (by rw [hs]; simp)])
    clear hs
    go_enter Try.func139, Try.ntmps139
    go_wp2_with (first | (go_at_call 85; ((with_reducible refine (calls_bool (isSmallPrime_any _ _) HS.out).mono ?_); rintro e w' ⟨rfl, rfl⟩)))
    go_ret
    exact ⟨ret_int HC.out.symm, rfl⟩

set_option maxHeartbeats 1000000 in
theorem l15Code_any {p : Int} {v : Value} {f : List Int} {w : World} (h : Reads w v f) :
    Calls Try.prog 141 #[.int .i64 p, v] w fun e w' => e = .returned (.int .i64 (extC p f)) ∧ w = w' := by
  obtain ⟨a, cap, rfl, h1, h2⟩ := reads_nil_eq h
  obtain ⟨n, hn⟩ : ∃ n, f.length = n := ⟨_, rfl⟩
  rw [hn] at h h1 ⊢
  have HR := Lib.hid h
  have hl := h.1
  rw [hn] at hl
  rcases Bool.eq_false_or_eq_true (smallB p) with hs | hs
  · have HS := Lib.hid hs
    rcases Bool.eq_false_or_eq_true (polyB f) with hp | hp
    · have HP := Lib.hid hp
      by_cases h0 : n < 2
      · have HC := Lib.hid (show extC p f = 5 by rw [extC, if_pos hs, if_pos hp, if_neg (by simp [monB]; intro; omega)])
        clear hs hp h h2 hn
        go_enter Try.func141, Try.ntmps141
        go_wp2_with (first | (go_at_call 88; ((with_reducible refine (calls_bool (l01Small_any _ _) HS.out).mono ?_); rintro e w' ⟨rfl, rfl⟩)) | (go_at_call 103; ((with_reducible refine (calls_bool (sIsPolynomial_any HR.out) HP.out).mono ?_); rintro e w' ⟨rfl, rfl⟩)))
        go_ret
        exact ⟨ret_int HC.out.symm, rfl⟩
      · obtain ⟨b, o, rfl, hc⟩ := h.at (k := n - 1) (by omega)
        by_cases hm : el f (n - 1) = 1
        · have HC := Lib.hid (show extC p f = 0 by rw [extC, if_pos hs, if_pos hp, if_pos (by simp [monB, hn, hm]; omega)])
          have hm' : (el f (n - 1) != 1) = false := by simpa using hm
          clear hs hp h h2 hn hm
          go_enter Try.func141, Try.ntmps141
          go_wp2_with (first | (go_at_call 88; ((with_reducible refine (calls_bool (l01Small_any _ _) HS.out).mono ?_); rintro e w' ⟨rfl, rfl⟩)) | (go_at_call 103; ((with_reducible refine (calls_bool (sIsPolynomial_any HR.out) HP.out).mono ?_); rintro e w' ⟨rfl, rfl⟩)))
          go_ret
          exact ⟨ret_int HC.out.symm, rfl⟩
        · have HC := Lib.hid (show extC p f = 5 by rw [extC, if_pos hs, if_pos hp, if_neg (by simp [monB, hn, hm])])
          have hm' : (el f (n - 1) != 1) = true := by simpa using hm
          clear hs hp h h2 hn hm
          go_enter Try.func141, Try.ntmps141
          go_wp2_with (first | (go_at_call 88; ((with_reducible refine (calls_bool (l01Small_any _ _) HS.out).mono ?_); rintro e w' ⟨rfl, rfl⟩)) | (go_at_call 103; ((with_reducible refine (calls_bool (sIsPolynomial_any HR.out) HP.out).mono ?_); rintro e w' ⟨rfl, rfl⟩)))
          go_ret
          exact ⟨ret_int HC.out.symm, rfl⟩
    · have HP := Lib.hid hp
      have HC := Lib.hid (show extC p f = 1 by rw [extC, if_pos hs, if_neg (by rw [hp]; simp)])
      clear hs hp h h2 hn
      go_enter Try.func141, Try.ntmps141
      go_wp2_with (first | (go_at_call 88; ((with_reducible refine (calls_bool (l01Small_any _ _) HS.out).mono ?_); rintro e w' ⟨rfl, rfl⟩)) | (go_at_call 103; ((with_reducible refine (calls_bool (sIsPolynomial_any HR.out) HP.out).mono ?_); rintro e w' ⟨rfl, rfl⟩)))
      go_ret
      exact ⟨ret_int HC.out.symm, rfl⟩
  · have HS := Lib.hid hs
    have HC := Lib.hid (show extC p f = 1 by rw [extC, if_neg (by rw [hs]; simp)])
    clear hs h h2 hn
    go_enter Try.func141, Try.ntmps141
    go_wp2_with (first | (go_at_call 88; ((with_reducible refine (calls_bool (l01Small_any _ _) HS.out).mono ?_); rintro e w' ⟨rfl, rfl⟩)))
    go_ret
    exact ⟨ret_int HC.out.symm, rfl⟩

/-! ### is it Eisenstein -/
theorem eis_bad {p : Int} {f : List Int} {k : Nat} (hk : k + 1 < f.length) (h : el f k % p ≠ 0) : eisB p f = false := by
  unfold eisB
  rw [Bool.and_eq_false_iff]
  left
  rw [Bool.eq_false_iff]
  intro ha
  rw [List.all_eq_true] at ha
  have := ha k (by simp; omega)
  exact h (by simpa using this)
theorem eis_all {p : Int} {f : List Int} (h : ∀ j, j + 1 < f.length → el f j % p = 0) : eisB p f = (el f 0 % (p * p) != 0) := by
  unfold eisB
  have : (List.range (f.length - 1)).all (fun i => el f i % p == 0) = true := by
    rw [List.all_eq_true]
    intro x hx
    simp at hx
    simpa using h x (by omega)
  rw [this, Bool.true_and]
theorem tmod_ne (a b : Int) : (a.tmod b != 0) = (a % b != 0) := by
  have := tmod_zero a b
  by_cases h : a % b = 0
  · rw [h, this.2 h]
  · have h2 : ¬ a.tmod b = 0 := fun e => h (this.1 e)
    rw [bne_iff_ne.2 h, bne_iff_ne.2 h2]
theorem eis_next {p : Int} {f : List Int} {k : Nat} (h : ∀ j, j < k → el f j % p = 0) (hk : el f k % p = 0) : ∀ j, j < k + 1 → el f j % p = 0 := by
  intro j hj
  by_cases e : j = k
  · rw [e]; exact hk
  · exact h j (by omega)

set_option maxHeartbeats 1000000 in
theorem isEisenstein_any {p : Int} {v : Value} {f : List Int} {w : World} (h : Reads w v f) (hp : 2 ≤ p ∧ p ≤ 97) (h2 : 2 ≤ f.length) :
    Calls Try.prog 140 #[.int .i64 p, v] w fun e w' => e = .returned (.bool (eisB p f)) ∧ w = w' := by
  obtain ⟨a, cap, rfl, h1, _⟩ := reads_nil_eq h
  obtain ⟨n, hn⟩ : ∃ n, f.length = n + 1 := ⟨f.length - 1, by omega⟩
  rw [hn] at h h1 h2 ⊢
  have HN := Lib.hid hn
  have HR := Lib.hid h
  have hl := h.1
  rw [hn] at hl
  obtain ⟨b, o, rfl, hc0⟩ := h.at (k := 0) (by omega)
  rw [Nat.add_zero] at hc0
  obtain ⟨pp1, pp2⟩ : 4 ≤ p * p ∧ p * p ≤ 9409 := by
    have := Int.mul_le_mul hp.1 hp.1 (by omega) (by omega)
    have := Int.mul_le_mul hp.2 hp.2 (by omega) (by omega)
    omega
  clear h hn
  go_enter Try.func140, Try.ntmps140
  go_wp2
  go_loop [13] (fun c => ∃ k : Nat, c = .int .i64 (k : Int) ∧ k ≤ n ∧ Hid (∀ j, j < k → el f j % p = 0)) (fun c => n - (intOf c).toNat)
  case atStart => exact ⟨0, rfl, by omega, Lib.hid (fun j hj => by omega)⟩
  case round =>
    obtain ⟨k, rfl, hk, HI⟩ := hrel
    by_cases hlt : k < n
    · obtain ⟨b', o', e, hc⟩ := HR.out.at (k := k) (by rw [HN.out]; omega)
      injection e with e
      injection e with e1 e2 _
      subst e1 e2
      by_cases hz : el f k % p = 0
      · have hz' : ((el f k).tmod p != 0) = false := by rw [tmod_ne]; simpa using hz
        have HZ := Lib.hid hz
        clear hz
        go_wp2
        go_round
        case rel => exact ⟨k + 1, by go_num, by omega, Lib.hid (eis_next HI.out HZ.out)⟩
        case measure => simp [intOf]; omega
      · have hz' : ((el f k).tmod p != 0) = true := by rw [tmod_ne]; simpa using hz
        have HE := Lib.hid (eis_bad (p := p) (f := f) (k := k) (by rw [HN.out]; omega) hz)
        clear hz
        go_wp2
        go_ret
        exact ⟨ret_bool HE.out.symm, rfl⟩
    · have HE := Lib.hid (show eisB p f = ((el f 0).tmod (p * p) != 0) by rw [tmod_ne]; exact eis_all (fun j hj => HI.out j (by rw [HN.out] at hj; omega)))
      go_wp2
      go_ret
      exact ⟨ret_bool HE.out.symm, rfl⟩

set_option maxHeartbeats 1000000 in
theorem l15Eisenstein_any {p : Int} {v : Value} {f : List Int} {w : World} (h : Reads w v f) (hp : 2 ≤ p ∧ p ≤ 97) (h2 : 2 ≤ f.length) :
    Calls Try.prog 142 #[.int .i64 p, v] w fun e w' => e = .returned (.bool (eisB p f)) ∧ w = w' := by
  obtain ⟨a, cap, rfl, h1, _⟩ := reads_nil_eq h
  obtain ⟨n, hn⟩ : ∃ n, f.length = n + 1 := ⟨f.length - 1, by omega⟩
  rw [hn] at h h1 h2 ⊢
  have HN := Lib.hid hn
  have HR := Lib.hid h
  have hl := h.1
  rw [hn] at hl
  obtain ⟨b, o, rfl, hc0⟩ := h.at (k := 0) (by omega)
  rw [Nat.add_zero] at hc0
  obtain ⟨pp1, pp2⟩ : 4 ≤ p * p ∧ p * p ≤ 9409 := by
    have := Int.mul_le_mul hp.1 hp.1 (by omega) (by omega)
    have := Int.mul_le_mul hp.2 hp.2 (by omega) (by omega)
    omega
  clear h hn
  go_enter Try.func142, Try.ntmps142
  go_wp2
  go_loop [5] (fun c => ∃ k : Nat, c = .int .i64 (k : Int) ∧ k ≤ n ∧ Hid (∀ j, j < k → el f j % p = 0)) (fun c => n - (intOf c).toNat)
  case atStart => exact ⟨0, rfl, by omega, Lib.hid (fun j hj => by omega)⟩
  case round =>
    obtain ⟨k, rfl, hk, HI⟩ := hrel
    by_cases hlt : k < n
    · obtain ⟨b', o', e, hc⟩ := HR.out.at (k := k) (by rw [HN.out]; omega)
      injection e with e
      injection e with e1 e2 _
      subst e1 e2
      by_cases hz : el f k % p = 0
      · have hz' : ((el f k).tmod p != 0) = false := by rw [tmod_ne]; simpa using hz
        have HZ := Lib.hid hz
        clear hz
        go_wp2
        go_round
        case rel => exact ⟨k + 1, by go_num, by omega, Lib.hid (eis_next HI.out HZ.out)⟩
        case measure => simp [intOf]; omega
      · have hz' : ((el f k).tmod p != 0) = true := by rw [tmod_ne]; simpa using hz
        have HE := Lib.hid (eis_bad (p := p) (f := f) (k := k) (by rw [HN.out]; omega) hz)
        clear hz
        go_wp2
        go_ret
        exact ⟨ret_bool HE.out.symm, rfl⟩
    · have HE := Lib.hid (show eisB p f = ((el f 0).tmod (p * p) != 0) by rw [tmod_ne]; exact eis_all (fun j hj => HI.out j (by rw [HN.out] at hj; omega)))
      go_wp2
      go_ret
      exact ⟨ret_bool HE.out.symm, rfl⟩

theorem own_ways (p : Int) (f : List Int) : (extC p f = 0 ∧ ((eisB p f = true ∧ ownC p f = 0) ∨ (eisB p f = false ∧ ownC p f = 4))) ∨ ((extC p f == 0) = false ∧ (extC p f != 0) = true ∧ ownC p f = extC p f) := by
  by_cases h : extC p f = 0
  · left
    refine ⟨h, ?_⟩
    rcases Bool.eq_false_or_eq_true (eisB p f) with he | he
    · exact .inl ⟨he, by rw [ownC, if_pos h, if_pos he]⟩
    · exact .inr ⟨he, by rw [ownC, if_pos h, if_neg (by rw [he]; simp)]⟩
  · right
    exact ⟨by simpa using h, by simpa using h, by rw [ownC, if_neg h]⟩
theorem eisenstein_any {p : Int} {v : Value} {f : List Int} {w : World} (h : Reads w v f) :
    Calls Try.prog 135 #[.int .i64 p, v] w fun e w' => e = .returned (.int .i64 (ownC p f)) ∧ w = w' := by
  have HR := Lib.hid h
  clear h
  rcases own_ways p f with ⟨hx, ⟨he, hc⟩ | ⟨he, hc⟩⟩ | ⟨hx1, hx2, hc⟩
  · obtain ⟨s1, s2, s3⟩ := ext_ok hx
    have hp := small_bd s1
    have hm := (mon_ok s3).1
    have HX := Lib.hid hx; have HE := Lib.hid he; have HC := Lib.hid hc
    clear hx he hc s1 s2 s3
    go_enter Try.func135, Try.ntmps135
    go_wp2_with (first | (go_at_call 139; ((with_reducible refine (calls_int (extending_any HR.out) HX.out).mono ?_); rintro e w' ⟨rfl, rfl⟩)) | (go_at_call 140; ((with_reducible refine (calls_bool (isEisenstein_any HR.out hp hm) HE.out).mono ?_); rintro e w' ⟨rfl, rfl⟩)))
    go_ret
    exact ⟨ret_int HC.out.symm, rfl⟩
  · obtain ⟨s1, s2, s3⟩ := ext_ok hx
    have hp := small_bd s1
    have hm := (mon_ok s3).1
    have HX := Lib.hid hx; have HE := Lib.hid he; have HC := Lib.hid hc
    clear hx he hc s1 s2 s3
    go_enter Try.func135, Try.ntmps135
    go_wp2_with (first | (go_at_call 139; ((with_reducible refine (calls_int (extending_any HR.out) HX.out).mono ?_); rintro e w' ⟨rfl, rfl⟩)) | (go_at_call 140; ((with_reducible refine (calls_bool (isEisenstein_any HR.out hp hm) HE.out).mono ?_); rintro e w' ⟨rfl, rfl⟩)))
    go_ret
    exact ⟨ret_int HC.out.symm, rfl⟩
  · have HC := Lib.hid hc
    clear hc
    go_enter Try.func135, Try.ntmps135
    go_wp2_with (first | (go_at_call 139; ((with_reducible refine (extending_any HR.out).mono ?_); rintro e w' ⟨rfl, rfl⟩)))
    go_ret
    exact ⟨ret_int HC.out.symm, rfl⟩
theorem l15Own_any {p : Int} {v : Value} {f : List Int} {w : World} (h : Reads w v f) :
    Calls Try.prog 137 #[.int .i64 p, v] w fun e w' => e = .returned (.int .i64 (ownC p f)) ∧ w = w' := by
  have HR := Lib.hid h
  clear h
  rcases own_ways p f with ⟨hx, ⟨he, hc⟩ | ⟨he, hc⟩⟩ | ⟨hx1, hx2, hc⟩
  · obtain ⟨s1, s2, s3⟩ := ext_ok hx
    have hp := small_bd s1
    have hm := (mon_ok s3).1
    have HX := Lib.hid hx; have HE := Lib.hid he; have HC := Lib.hid hc
    clear hx he hc s1 s2 s3
    go_enter Try.func137, Try.ntmps137
    go_wp2_with (first | (go_at_call 141; ((with_reducible refine (calls_int (l15Code_any HR.out) HX.out).mono ?_); rintro e w' ⟨rfl, rfl⟩)) | (go_at_call 142; ((with_reducible refine (calls_bool (l15Eisenstein_any HR.out hp hm) HE.out).mono ?_); rintro e w' ⟨rfl, rfl⟩)))
    go_ret
    exact ⟨ret_int HC.out.symm, rfl⟩
  · obtain ⟨s1, s2, s3⟩ := ext_ok hx
    have hp := small_bd s1
    have hm := (mon_ok s3).1
    have HX := Lib.hid hx; have HE := Lib.hid he; have HC := Lib.hid hc
    clear hx he hc s1 s2 s3
    go_enter Try.func137, Try.ntmps137
    go_wp2_with (first | (go_at_call 141; ((with_reducible refine (calls_int (l15Code_any HR.out) HX.out).mono ?_); rintro e w' ⟨rfl, rfl⟩)) | (go_at_call 142; ((with_reducible refine (calls_bool (l15Eisenstein_any HR.out hp hm) HE.out).mono ?_); rintro e w' ⟨rfl, rfl⟩)))
    go_ret
    exact ⟨ret_int HC.out.symm, rfl⟩
  · have HC := Lib.hid hc
    clear hc
    go_enter Try.func137, Try.ntmps137
    go_wp2_with (first | (go_at_call 141; ((with_reducible refine (l15Code_any HR.out).mono ?_); rintro e w' ⟨rfl, rfl⟩)))
    go_ret
    exact ⟨ret_int HC.out.symm, rfl⟩

/-! ### the different -/
def difD (p : Int) (f : List Int) (i : Nat) : Int := ((f.length : Int) - 1) * vp p (((i : Int) + 1) * el f (i + 1)) + ((i : Int) + 1) - 1
def difS (p : Int) (f : List Int) : Nat → Int
  | 0 => -1
  | i + 1 => if el f (i + 1) = 0 then difS p f i else if difS p f i < 0 ∨ difD p f i < difS p f i then difD p f i else difS p f i
def difL (p : Int) (f : List Int) : Int := difS p f (f.length - 1)
def difV (p : Int) (f : List Int) : Int := if ownC p f = 0 then difL p f else 0

theorem dif_num {p : Int} {f : List Int} {n i : Nat} (hp : 2 ≤ p) (hn : f.length = n + 1) (hl : n ≤ 8) (hf : Bd 1000000 f) (hi : i < n) (h0 : el f (i + 1) ≠ 0) :
    (-8000000 ≤ ((i : Int) + 1) * el f (i + 1) ∧ ((i : Int) + 1) * el f (i + 1) ≤ 8000000) ∧ ((i : Int) + 1) * el f (i + 1) ≠ 0 ∧ (0 ≤ (n : Int) * vp p (((i : Int) + 1) * el f (i + 1)) ∧ (n : Int) * vp p (((i : Int) + 1) * el f (i + 1)) ≤ 64000000) := by
  have hm := abs_mul_le (x := (i : Int) + 1) (y := el f (i + 1)) (a := 8) (b := 1000000) (by omega) (hf (i + 1))
  have hne : ((i : Int) + 1) * el f (i + 1) ≠ 0 := Int.mul_ne_zero (by omega) h0
  have hv := vp_le hp hne
  have h1 : (n : Int) * vp p (((i : Int) + 1) * el f (i + 1)) ≤ 8 * 8000000 := Int.mul_le_mul (by omega) (by omega) (by omega) (by omega)
  have h2 : 0 ≤ (n : Int) * vp p (((i : Int) + 1) * el f (i + 1)) := Int.mul_nonneg (by omega) (by omega)
  exact ⟨by omega, hne, h2, by omega⟩
theorem difD_eq {p : Int} {f : List Int} {n i : Nat} (hn : f.length = n + 1) : difD p f i = (n : Int) * vp p (((i : Int) + 1) * el f (i + 1)) + i := by
  unfold difD; rw [hn]
  rw [show ((n + 1 : Nat) : Int) - 1 = n by omega]; omega
theorem difS_bd {p : Int} {f : List Int} {n : Nat} (hp : 2 ≤ p) (hn : f.length = n + 1) (hl : n ≤ 8) (hf : Bd 1000000 f) : ∀ i, i ≤ n → -1 ≤ difS p f i ∧ difS p f i ≤ 100000000
  | 0, _ => by simp [difS]
  | i + 1, h => by
    have ih := difS_bd hp hn hl hf i (by omega)
    rw [difS]
    split
    · exact ih
    · obtain ⟨_, _, h3, h4⟩ := dif_num hp hn hl hf (i := i) (by omega) (by assumption)
      split
      · rw [difD_eq hn]; omega
      · exact ih

set_option maxHeartbeats 4000000 in
theorem DifferentOf_ok {p : Int} {v : Value} {f : List Int} {w : World} (h : Reads w v f) (hc : ownC p f = 0) :
    Calls Try.prog 65 #[.int .i64 p, v] w fun e w' => e = .returned (.tuple #[.int .i64 (difL p f), .int .i64 0]) ∧ w = w' := by
  have hx : extC p f = 0 := by
    rcases own_ways p f with ⟨hx, _⟩ | ⟨hx, _, he⟩
    · exact hx
    · rw [← he]; exact hc
  obtain ⟨s1, s2, s3⟩ := ext_ok hx
  obtain ⟨p1, p2⟩ := small_bd s1
  obtain ⟨l9, hfb, _⟩ := polyB_bd s2
  have hm := (mon_ok s3).1
  have hfB : Bd 1000000 f := Bd.of (by omega) hfb
  obtain ⟨a, cap, rfl, h1, _⟩ := reads_nil_eq h
  obtain ⟨n, hn⟩ : ∃ n, f.length = n + 1 := ⟨f.length - 1, by omega⟩
  rw [hn] at h h1 hm l9 ⊢
  have HN := Lib.hid hn
  have HR := Lib.hid h
  have HC := Lib.hid hc
  have HF := Lib.hid hfB
  have HG := Lib.hid (show (f.length : Int) - 1 = n by rw [hn]; omega)
  have hl8 : n ≤ 8 := by omega
  clear h hn hc hx s1 s2 s3 hfb hfB
  go_enter Try.func65, Try.ntmps65
  go_wp2_with (first | (go_at_call 135; ((with_reducible refine (calls_int (eisenstein_any HR.out) HC.out).mono ?_); rintro e w' ⟨rfl, rfl⟩)) | (go_at_call 136; ((with_reducible refine (calls_int (degree_any HR.out) HG.out).mono ?_); rintro e w' ⟨rfl, rfl⟩)))
  go_loop [8, 9] (fun l c => ∃ k : Nat, c = .int .i64 ((k : Int) + 1) ∧ k ≤ n ∧ l = .int .i64 (difS p f k)) (fun _ c => n + 1 - (intOf c).toNat)
  case atStart => exact ⟨0, rfl, by omega, rfl⟩
  case round =>
    obtain ⟨k, rfl, hk, rfl⟩ := hrel
    obtain ⟨L, hL⟩ : ∃ L, difS p f k = L := ⟨_, rfl⟩
    obtain ⟨L1, L2⟩ := difS_bd p1 HN.out hl8 HF.out k hk
    rw [hL] at L1 L2 ⊢
    have HL := Lib.hid hL
    clear hL
    by_cases hlt : k < n
    · obtain ⟨b, o, rfl, hc⟩ := HR.out.at (k := k + 1) (by rw [HN.out]; omega)
      by_cases hz : el f (k + 1) = 0
      · have HS := Lib.hid (show difS p f (k + 1) = L by rw [difS, if_pos hz]; exact HL.out)
        rw [hz] at hc
        clear hz
        go_wp2
        go_round
        case rel => exact ⟨k + 1, by go_num, by omega, vint HS.out.symm⟩
        case measure => simp [intOf]; omega
      · obtain ⟨⟨m1, m2⟩, m3, m4, m5⟩ := dif_num p1 HN.out hl8 HF.out hlt hz
        have hz' : (el f (k + 1) == 0) = false := by simpa using hz
        have hz2 : (((k : Int) + 1) * el f (k + 1) == 0) = false := by simpa using m3
        have hD := difD_eq (p := p) (i := k) HN.out
        by_cases h1 : L < 0
        · have HS := Lib.hid (show difS p f (k + 1) = (n : Int) * vp p (((k : Int) + 1) * el f (k + 1)) + k by rw [difS, if_neg hz, HL.out, if_pos (.inl h1), hD])
          clear hz hD
          go_wp2_with (go_at_call 87; ((with_reducible refine (valuation_any _ p _ m3 (by omega) (by omega) p1 (by omega)).mono ?_); rintro e w' ⟨rfl, rfl⟩))
          go_round
          case rel => exact ⟨k + 1, by go_num, by omega, vint (by rw [HS.out]; omega)⟩
          case measure => simp [intOf]; omega
        · by_cases h2 : (n : Int) * vp p (((k : Int) + 1) * el f (k + 1)) + k < L
          · have HS := Lib.hid (show difS p f (k + 1) = (n : Int) * vp p (((k : Int) + 1) * el f (k + 1)) + k by rw [difS, if_neg hz, HL.out, if_pos (.inr (by rw [hD]; exact h2)), hD])
            clear hz hD
            go_wp2_with (go_at_call 87; ((with_reducible refine (valuation_any _ p _ m3 (by omega) (by omega) p1 (by omega)).mono ?_); rintro e w' ⟨rfl, rfl⟩))
            go_round
            case rel => exact ⟨k + 1, by go_num, by omega, vint (by rw [HS.out]; omega)⟩
            case measure => simp [intOf]; omega
          · have HS := Lib.hid (show difS p f (k + 1) = L by rw [difS, if_neg hz, HL.out, if_neg (by rw [hD]; omega)])
            clear hz hD
            go_wp2_with (go_at_call 87; ((with_reducible refine (valuation_any _ p _ m3 (by omega) (by omega) p1 (by omega)).mono ?_); rintro e w' ⟨rfl, rfl⟩))
            go_round
            case rel => exact ⟨k + 1, by go_num, by omega, vint HS.out.symm⟩
            case measure => simp [intOf]; omega
    · have hk2 : k = n := by omega
      have HE := Lib.hid (show difL p f = L by rw [difL, HN.out, Nat.add_sub_cancel, ← hk2]; exact HL.out)
      go_wp2
      go_ret2
      exact ⟨ret2 HE.out.symm rfl, rfl⟩

set_option maxHeartbeats 4000000 in
theorem l15Different_ok {p : Int} {v : Value} {f : List Int} {w : World} (h : Reads w v f) (hc : ownC p f = 0) :
    Calls Try.prog 138 #[.int .i64 p, v] w fun e w' => e = .returned (.int .i64 (difL p f)) ∧ w = w' := by
  have hx : extC p f = 0 := by
    rcases own_ways p f with ⟨hx, _⟩ | ⟨hx, _, he⟩
    · exact hx
    · rw [← he]; exact hc
  obtain ⟨s1, s2, s3⟩ := ext_ok hx
  obtain ⟨p1, p2⟩ := small_bd s1
  obtain ⟨l9, hfb, _⟩ := polyB_bd s2
  have hm := (mon_ok s3).1
  have hfB : Bd 1000000 f := Bd.of (by omega) hfb
  obtain ⟨a, cap, rfl, h1, _⟩ := reads_nil_eq h
  obtain ⟨n, hn⟩ : ∃ n, f.length = n + 1 := ⟨f.length - 1, by omega⟩
  rw [hn] at h h1 hm l9 ⊢
  have HN := Lib.hid hn
  have HR := Lib.hid h
  have HC := Lib.hid hc
  have HF := Lib.hid hfB
  have HG := Lib.hid (show (f.length : Int) - 1 = n by rw [hn]; omega)
  have hl8 : n ≤ 8 := by omega
  clear h hn hc hx s1 s2 s3 hfb hfB
  go_enter Try.func138, Try.ntmps138
  go_wp2
  go_loop [6, 7] (fun l c => ∃ k : Nat, c = .int .i64 ((k : Int) + 1) ∧ k ≤ n ∧ l = .int .i64 (difS p f k)) (fun _ c => n + 1 - (intOf c).toNat)
  case atStart => exact ⟨0, rfl, by omega, rfl⟩
  case round =>
    obtain ⟨k, rfl, hk, rfl⟩ := hrel
    obtain ⟨L, hL⟩ : ∃ L, difS p f k = L := ⟨_, rfl⟩
    obtain ⟨L1, L2⟩ := difS_bd p1 HN.out hl8 HF.out k hk
    rw [hL] at L1 L2 ⊢
    have HL := Lib.hid hL
    clear hL
    by_cases hlt : k < n
    · obtain ⟨b, o, rfl, hc⟩ := HR.out.at (k := k + 1) (by rw [HN.out]; omega)
      by_cases hz : el f (k + 1) = 0
      · have HS := Lib.hid (show difS p f (k + 1) = L by rw [difS, if_pos hz]; exact HL.out)
        rw [hz] at hc
        clear hz
        go_wp2
        go_round
        case rel => exact ⟨k + 1, by go_num, by omega, vint HS.out.symm⟩
        case measure => simp [intOf]; omega
      · obtain ⟨⟨m1, m2⟩, m3, m4, m5⟩ := dif_num p1 HN.out hl8 HF.out hlt hz
        have hz' : (el f (k + 1) == 0) = false := by simpa using hz
        have hz2 : (((k : Int) + 1) * el f (k + 1) == 0) = false := by simpa using m3
        have hD := difD_eq (p := p) (i := k) HN.out
        by_cases h1 : L < 0
        · have HS := Lib.hid (show difS p f (k + 1) = (n : Int) * vp p (((k : Int) + 1) * el f (k + 1)) + k by rw [difS, if_neg hz, HL.out, if_pos (.inl h1), hD])
          clear hz hD
          go_wp2_with (go_at_call 90; ((with_reducible refine (l01Valuation_any _ p _ m3 (by omega) (by omega) p1 (by omega)).mono ?_); rintro e w' ⟨rfl, rfl⟩))
          go_round
          case rel => exact ⟨k + 1, by go_num, by omega, vint (by rw [HS.out]; omega)⟩
          case measure => simp [intOf]; omega
        · by_cases h2 : (n : Int) * vp p (((k : Int) + 1) * el f (k + 1)) + k < L
          · have HS := Lib.hid (show difS p f (k + 1) = (n : Int) * vp p (((k : Int) + 1) * el f (k + 1)) + k by rw [difS, if_neg hz, HL.out, if_pos (.inr (by rw [hD]; exact h2)), hD])
            clear hz hD
            go_wp2_with (go_at_call 90; ((with_reducible refine (l01Valuation_any _ p _ m3 (by omega) (by omega) p1 (by omega)).mono ?_); rintro e w' ⟨rfl, rfl⟩))
            go_round
            case rel => exact ⟨k + 1, by go_num, by omega, vint (by rw [HS.out]; omega)⟩
            case measure => simp [intOf]; omega
          · have HS := Lib.hid (show difS p f (k + 1) = L by rw [difS, if_neg hz, HL.out, if_neg (by rw [hD]; omega)])
            clear hz hD
            go_wp2_with (go_at_call 90; ((with_reducible refine (l01Valuation_any _ p _ m3 (by omega) (by omega) p1 (by omega)).mono ?_); rintro e w' ⟨rfl, rfl⟩))
            go_round
            case rel => exact ⟨k + 1, by go_num, by omega, vint HS.out.symm⟩
            case measure => simp [intOf]; omega
    · have hk2 : k = n := by omega
      have HE := Lib.hid (show difL p f = L by rw [difL, HN.out, Nat.add_sub_cancel, ← hk2]; exact HL.out)
      go_wp2
      go_ret
      exact ⟨ret_int HE.out.symm, rfl⟩

end Go.Proofs.Ytlndfjplhfgicaa
