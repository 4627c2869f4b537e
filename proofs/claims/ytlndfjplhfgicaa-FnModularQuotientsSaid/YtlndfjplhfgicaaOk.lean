/- Contracts: quotients and common divisors by a prime. -/
import Derived.Test.YtlndfjplhfgicaaOj
import Derived.Test.YtlndfjplhfgicaaD
namespace Go.Proofs.Ytlndfjplhfgicaa
open Go.RowKit
set_option linter.unusedVariables false
set_option linter.unusedSimpArgs false

/-- Two new slices and a code. -/
def RetQRC (Q R : List Int) (c : Int) (w : World) (e : Ending) (w' : World) : Prop := ∃ v1 v2 w1, e = .returned (.tuple #[v1, v2, .int .i64 c]) ∧ Q.length ≤ 1000000 ∧ R.length ≤ 1000000 ∧ Own w1 w.heap.size v1 Q ∧ Below w.heap.size w w1 ∧ Own w' w1.heap.size v2 R ∧ Below w1.heap.size w1 w'
def twoC (p : Int) (f g : List Int) : Int := if modlB p f then if modlB p g then if g.length = 0 then 5 else 0 else 1 else 1
def quoQ (p : Int) (f g : List Int) : List Int := quoL p (invV p (el g (g.length - 1))) f g
def remR (p : Int) (f g : List Int) : List Int := remL p (invV p (el g (g.length - 1))) f g
def dmQ (p : Int) (f g : List Int) : List Int := if twoC p f g = 0 then quoQ p f g else []
def dmR (p : Int) (f g : List Int) : List Int := if twoC p f g = 0 then remR p f g else []
theorem quo_len (p v : Int) (f g : List Int) : (quoL p v f g).length ≤ divN f g := by
  have := trimL_le (divS p v f g (divN f g) (divN f g)).1
  rw [(divS_len p v f g _ _).1] at this
  exact this
theorem rem_len (p v : Int) (f g : List Int) : (remL p v f g).length ≤ f.length := by
  have := trimL_le (divS p v f g (divN f g) (divN f g)).2
  rw [(divS_len p v f g _ _).2] at this
  exact this
theorem modl_in {p : Int} {f : List Int} (h : modlB p f = true) : 2 ≤ p ∧ p ≤ 97 ∧ smallB p = true ∧ f.length ≤ 9 ∧ In p f := by
  obtain ⟨h1, h2, h3, h4⟩ := modlB_bd h
  have hp := small_bd h1
  exact ⟨hp.1, hp.2, h1, h2, In.of (by omega) h3⟩

theorem l08Two_any {p : Int} {v u : Value} {f g : List Int} {w : World} (h : Reads w v f) (h' : Reads w u g) :
    Calls Try.prog 121 #[.int .i64 p, v, u] w fun e w' => e = .returned (.int .i64 (twoC p f g)) ∧ w = w' := by
  have HA := Lib.hid h
  have HB := Lib.hid h'
  obtain ⟨a2, c2, rfl, k1, k2⟩ := reads_nil_eq h'
  clear h h' k2
  obtain ⟨n, hn⟩ : ∃ n, g.length = n := ⟨_, rfl⟩
  rw [hn] at HB k1 ⊢
  have HN := Lib.hid hn
  clear hn
  rcases Bool.eq_false_or_eq_true (modlB p f) with hp | hp
  · have HP := Lib.hid hp
    rcases Bool.eq_false_or_eq_true (modlB p g) with hq | hq
    · have HQ := Lib.hid hq
      clear hp hq
      by_cases h0 : n = 0
      · have HC := Lib.hid (show twoC p f g = 5 by simp [twoC, HP.out, HQ.out, HN.out, h0])
        subst h0
        go_enter Try.func121, Try.ntmps121
        go_wp2_with (first | (go_at_call 57; ((with_reducible refine (calls_bool (sIsModular_any HA.out) HP.out).mono ?_); rintro e w' ⟨rfl, rfl⟩)) | (go_at_call 57; ((with_reducible refine (calls_bool (sIsModular_any HB.out) HQ.out).mono ?_); rintro e w' ⟨rfl, rfl⟩)))
        go_ret
        exact ⟨ret_int HC.out.symm, rfl⟩
      · have HC := Lib.hid (show twoC p f g = 0 by simp only [twoC, HP.out, HQ.out, HN.out, h0, if_true, if_false])
        have hb : ((n : Int) == 0) = false := by simp; omega
        go_enter Try.func121, Try.ntmps121
        go_wp2_with (first | (go_at_call 57; ((with_reducible refine (calls_bool (sIsModular_any HA.out) HP.out).mono ?_); rintro e w' ⟨rfl, rfl⟩)) | (go_at_call 57; ((with_reducible refine (calls_bool (sIsModular_any HB.out) HQ.out).mono ?_); rintro e w' ⟨rfl, rfl⟩)))
        go_ret
        exact ⟨ret_int HC.out.symm, rfl⟩
    · have HQ := Lib.hid hq
      clear hp hq
      have HC := Lib.hid (show twoC p f g = 1 by simp [twoC, HP.out, HQ.out])
      go_enter Try.func121, Try.ntmps121
      go_wp2_with (first | (go_at_call 57; ((with_reducible refine (calls_bool (sIsModular_any HA.out) HP.out).mono ?_); rintro e w' ⟨rfl, rfl⟩)) | (go_at_call 57; ((with_reducible refine (calls_bool (sIsModular_any HB.out) HQ.out).mono ?_); rintro e w' ⟨rfl, rfl⟩)))
      go_ret
      exact ⟨ret_int HC.out.symm, rfl⟩
  · have HP := Lib.hid hp
    clear hp
    have HC := Lib.hid (show twoC p f g = 1 by simp [twoC, HP.out])
    go_enter Try.func121, Try.ntmps121
    go_wp2_with (first | (go_at_call 57; ((with_reducible refine (calls_bool (sIsModular_any HA.out) HP.out).mono ?_); rintro e w' ⟨rfl, rfl⟩)) | (go_at_call 57; ((with_reducible refine (calls_bool (sIsModular_any HB.out) HQ.out).mono ?_); rintro e w' ⟨rfl, rfl⟩)))
    go_ret
    exact ⟨ret_int HC.out.symm, rfl⟩
theorem two_ok {p : Int} {f g : List Int} (h : twoC p f g = 0) : modlB p f = true ∧ modlB p g = true ∧ 0 < g.length := by
  unfold twoC at h
  by_cases h1 : modlB p f = true
  · rw [if_pos h1] at h
    by_cases h2 : modlB p g = true
    · rw [if_pos h2] at h
      by_cases h3 : g.length = 0
      · rw [if_pos h3] at h; cases h
      · exact ⟨h1, h2, by omega⟩
    · rw [if_neg h2] at h; cases h
  · rw [if_neg h1] at h; cases h

set_option maxHeartbeats 1000000 in
theorem sDivideModular_any {p : Int} {v u : Value} {f g : List Int} {w : World} (h : Reads w v f) (h' : Reads w u g) : Calls Try.prog 49 #[.int .i64 p, v, u] w (RetQRC (dmQ p f g) (dmR p f g) (twoC p f g) w) := by
  have HA := Lib.hid h
  have HB := Lib.hid h'
  clear h h'
  by_cases hc : twoC p f g = 0
  · have HC := Lib.hid hc
    obtain ⟨m1, m2, m3⟩ := two_ok hc
    obtain ⟨p1, p2, ps, l1, i1⟩ := modl_in m1
    obtain ⟨_, _, _, l2, i2⟩ := modl_in m2
    have hl1 := quo_len p (invV p (el g (g.length - 1))) f g
    have hl2 := rem_len p (invV p (el g (g.length - 1))) f g
    unfold divN at hl1
    have HL := Lib.hid (show (quoQ p f g).length ≤ 1000000 ∧ (remR p f g).length ≤ 1000000 by unfold quoQ remR; omega)
    clear hc m1 m2 hl1 hl2
    go_enter Try.func49, Try.ntmps49
    go_wp2_with (first | (go_at_call 121; ((with_reducible refine (calls_int (l08Two_any HA.out HB.out) HC.out).mono ?_); rintro e w' ⟨rfl, rfl⟩)) | (go_at_call 122; with_reducible refine (l08Divide_any HA.out HB.out i1 i2 ps (by omega) (by omega) m3).mono ?_))
    rintro _ w2 ⟨v1, v2, w1, rfl, o1, hb1, o2, hb2⟩
    go_wp2
    go_ret3
    exact ⟨v1, v2, w1, by simp [HC.out], by simpa [dmQ, HC.out] using HL.out.1, by simpa [dmR, HC.out] using HL.out.2, by simpa [dmQ, HC.out, quoQ] using o1, hb1, by simpa [dmR, HC.out, remR] using o2, hb2⟩
  · have HC := Lib.hid hc
    have hb : (twoC p f g != 0) = true := by simpa using hc
    clear hc
    go_enter Try.func49, Try.ntmps49
    go_wp2_with (go_at_call 121; ((with_reducible refine (l08Two_any HA.out HB.out).mono ?_); rintro e w' ⟨rfl, rfl⟩))
    go_ret3
    exact ⟨.slice none 0 0, .slice none 0 0, w, by simp, by simp [dmQ, HC.out], by simp [dmR, HC.out], by simpa [dmQ, HC.out] using Own.nil, Below.refl _ _, by simpa [dmR, HC.out] using Own.nil, Below.refl _ _⟩

set_option maxHeartbeats 1000000 in
theorem DivideModular_any {p : Int} {v u : Value} {f g : List Int} {w : World} (h : Reads w v f) (h' : Reads w u g) : Calls Try.prog 47 #[.int .i64 p, v, u] w (RetQRC (dmQ p f g) (dmR p f g) (twoC p f g) w) := by
  have HA := Lib.hid h
  have HB := Lib.hid h'
  obtain ⟨a2, c2, rfl, k1, k2⟩ := reads_nil_eq h'
  clear h h' k2
  obtain ⟨n, hn⟩ : ∃ n, g.length = n := ⟨_, rfl⟩
  rw [hn] at HB k1 ⊢
  have HN := Lib.hid hn
  clear hn
  rcases Bool.eq_false_or_eq_true (modlB p f) with hp | hp
  · have HP := Lib.hid hp
    rcases Bool.eq_false_or_eq_true (modlB p g) with hq | hq
    · have HQ := Lib.hid hq
      by_cases h0 : n = 0
      · have HC := Lib.hid (show twoC p f g = 5 by simp [twoC, HP.out, HQ.out, HN.out, h0])
        subst h0
        clear hp hq
        go_enter Try.func47, Try.ntmps47
        go_wp2_with (go_at_call 56; with_reducible refine (calls_bool (IsModular_any HA.out) HP.out).mono ?_)
        rintro _ w1 ⟨rfl, hb1⟩
        go_wp2_with (go_at_call 56; with_reducible refine (calls_bool (IsModular_any (HB.out.step hb1)) HQ.out).mono ?_)
        rintro _ w2 ⟨rfl, hb2⟩
        go_wp2
        go_ret3
        exact ⟨.slice none 0 0, .slice none 0 0, w2, by simp [HC.out], by simp [dmQ, HC.out], by simp [dmR, HC.out], by simpa [dmQ, HC.out] using Own.nil, hb1.trans (hb2.mono hb1.size), by simpa [dmR, HC.out] using Own.nil, Below.refl _ _⟩
      · have HC := Lib.hid (show twoC p f g = 0 by simp only [twoC, HP.out, HQ.out, HN.out, h0, if_true, if_false])
        have hb : ((n : Int) == 0) = false := by simp; omega
        obtain ⟨p1, p2, ps, l1, i1⟩ := modl_in hp
        obtain ⟨_, _, _, l2, i2⟩ := modl_in hq
        have hl1 := quo_len p (invV p (el g (g.length - 1))) f g
        have hl2 := rem_len p (invV p (el g (g.length - 1))) f g
        unfold divN at hl1
        have HL := Lib.hid (show (quoQ p f g).length ≤ 1000000 ∧ (remR p f g).length ≤ 1000000 by unfold quoQ remR; omega)
        have HL2 := Lib.hid l2
        clear hp hq hl1 hl2 l2
        go_enter Try.func47, Try.ntmps47
        go_wp2_with (go_at_call 56; with_reducible refine (calls_bool (IsModular_any HA.out) HP.out).mono ?_)
        rintro _ w1 ⟨rfl, hb1⟩
        go_wp2_with (go_at_call 56; with_reducible refine (calls_bool (IsModular_any (HB.out.step hb1)) HQ.out).mono ?_)
        rintro _ w2 ⟨rfl, hb2⟩
        have HB2 := Lib.hid (hb1.trans (hb2.mono hb1.size))
        go_wp2_with (go_at_call 120; with_reducible refine (divide_any ((HA.out.step hb1).step hb2) ((HB.out.step hb1).step hb2) i1 i2 ps (by omega) (by have := HL2.out; omega) (by rw [HN.out]; omega)).mono ?_)
        rintro _ w4 ⟨v1, v2, w3, rfl, o1, hb3, o2, hb4⟩
        go_wp2
        go_ret3
        exact ⟨v1, v2, w3, by simp [HC.out], by simpa [dmQ, HC.out] using HL.out.1, by simpa [dmR, HC.out] using HL.out.2, by simpa [dmQ, HC.out, quoQ] using o1.mono HB2.out.size, HB2.out.trans (hb3.mono HB2.out.size), by simpa [dmR, HC.out, remR] using o2, hb4⟩
    · have HQ := Lib.hid hq
      have HC := Lib.hid (show twoC p f g = 1 by simp [twoC, HP.out, HQ.out])
      clear hp hq
      go_enter Try.func47, Try.ntmps47
      go_wp2_with (go_at_call 56; with_reducible refine (calls_bool (IsModular_any HA.out) HP.out).mono ?_)
      rintro _ w1 ⟨rfl, hb1⟩
      go_wp2_with (go_at_call 56; with_reducible refine (calls_bool (IsModular_any (HB.out.step hb1)) HQ.out).mono ?_)
      rintro _ w2 ⟨rfl, hb2⟩
      go_wp2
      go_ret3
      exact ⟨.slice none 0 0, .slice none 0 0, w2, by simp [HC.out], by simp [dmQ, HC.out], by simp [dmR, HC.out], by simpa [dmQ, HC.out] using Own.nil, hb1.trans (hb2.mono hb1.size), by simpa [dmR, HC.out] using Own.nil, Below.refl _ _⟩
  · have HP := Lib.hid hp
    have HC := Lib.hid (show twoC p f g = 1 by simp [twoC, HP.out])
    clear hp
    go_enter Try.func47, Try.ntmps47
    go_wp2_with (go_at_call 56; with_reducible refine (calls_bool (IsModular_any HA.out) HP.out).mono ?_)
    rintro _ w1 ⟨rfl, hb1⟩
    go_wp2
    go_ret3
    exact ⟨.slice none 0 0, .slice none 0 0, w1, by simp [HC.out], by simp [dmQ, HC.out], by simp [dmR, HC.out], by simpa [dmQ, HC.out] using Own.nil, hb1, by simpa [dmR, HC.out] using Own.nil, Below.refl _ _⟩

end Go.Proofs.Ytlndfjplhfgicaa
