/- Contracts of top functions on polynomials by a prime (the first two as in the single laws' texts). -/
import Derived.Test.YtlndfjplhfgicaaOn
namespace Go.Proofs.Ytlndfjplhfgicaa
open Go.RowKit
set_option linter.unusedVariables false
set_option linter.unusedSimpArgs false

namespace multiplyModular
def out (p : Int) (f g : List Int) : List Int := if modlB p f then if modlB p g then if (timL p f g).length ≤ 9 then timL p f g else [] else [] else []
def code (p : Int) (f g : List Int) : Int := if modlB p f then if modlB p g then if (timL p f g).length ≤ 9 then 0 else 3 else 1 else 1
set_option maxHeartbeats 1000000 in
theorem spec_any {p : Int} {v u : Value} {f g : List Int} {w : World} (h : Reads w v f) (h' : Reads w u g) : Calls Try.prog 52 #[.int .i64 p, v, u] w (RetIC (out p f g) (code p f g) w) := by
  have HA := Lib.hid h
  have HB := Lib.hid h'
  clear h h'
  rcases Bool.eq_false_or_eq_true (modlB p f) with hp | hq
  · have HP := Lib.hid hp
    rcases Bool.eq_false_or_eq_true (modlB p g) with hq | hq
    · have HQ := Lib.hid hq
      obtain ⟨m1, m2, m3, m4⟩ := modlB_bd hp
      obtain ⟨n1, n2, n3, n4⟩ := modlB_bd hq
      have hp := small_bd m1
      clear hq m4 n4
      by_cases hl : (timL p f g).length ≤ 9
      · have HL := Lib.hid hl
        go_enter Try.func52, Try.ntmps52
        go_wp2_with (first | (go_at_call 57; ((with_reducible refine (calls_bool (sIsModular_any HA.out) HP.out).mono ?_); rintro e w' ⟨rfl, rfl⟩)) | (go_at_call 57; ((with_reducible refine (calls_bool (sIsModular_any HB.out) HQ.out).mono ?_); rintro e w' ⟨rfl, rfl⟩)) | (go_at_call 124; with_reducible refine (l08Multiply_any HA.out HB.out (In.of (by omega) m3) (In.of (by omega) n3) hp (by omega) (by omega)).mono ?_))
        rintro _ w3 ⟨v3, rfl, o3, hb3⟩
        obtain ⟨a3, c3, rfl, k3, _⟩ := reads_nil_eq o3.reads
        go_wp2
        go_ret2
        exact ⟨.slice a3 (timL p f g).length c3, by simp [code, HP.out, HQ.out, HL.out], by simpa [out, HP.out, HQ.out, HL.out] using o3.mono (Below.refl w.heap.size w).size, (Below.refl w.heap.size w).trans (hb3.mono (Below.refl w.heap.size w).size)⟩
      · have HL := Lib.hid hl
        go_enter Try.func52, Try.ntmps52
        go_wp2_with (first | (go_at_call 57; ((with_reducible refine (calls_bool (sIsModular_any HA.out) HP.out).mono ?_); rintro e w' ⟨rfl, rfl⟩)) | (go_at_call 57; ((with_reducible refine (calls_bool (sIsModular_any HB.out) HQ.out).mono ?_); rintro e w' ⟨rfl, rfl⟩)) | (go_at_call 124; with_reducible refine (l08Multiply_any HA.out HB.out (In.of (by omega) m3) (In.of (by omega) n3) hp (by omega) (by omega)).mono ?_))
        rintro _ w3 ⟨v3, rfl, o3, hb3⟩
        obtain ⟨a3, c3, rfl, k3, _⟩ := reads_nil_eq o3.reads
        go_wp2
        go_ret2
        exact ⟨.slice none 0 0, by simp [code, HP.out, HQ.out, HL.out], by simpa [out, HP.out, HQ.out, HL.out] using Own.nil, (Below.refl w.heap.size w).trans (hb3.mono (Below.refl w.heap.size w).size)⟩
    · have HQ := Lib.hid hq
      clear hp hq
      go_enter Try.func52, Try.ntmps52
      go_wp2_with (first | (go_at_call 57; ((with_reducible refine (calls_bool (sIsModular_any HA.out) HP.out).mono ?_); rintro e w' ⟨rfl, rfl⟩)) | (go_at_call 57; ((with_reducible refine (calls_bool (sIsModular_any HB.out) HQ.out).mono ?_); rintro e w' ⟨rfl, rfl⟩)))
      go_wp2
      go_ret2
      exact ⟨.slice none 0 0, by simp [code, HP.out, HQ.out], by simpa [out, HP.out, HQ.out] using Own.nil, (Below.refl w.heap.size w)⟩
  · have HP := Lib.hid hq
    clear hq
    go_enter Try.func52, Try.ntmps52
    go_wp2_with (go_at_call 57; ((with_reducible refine (calls_bool (sIsModular_any HA.out) HP.out).mono ?_); rintro e w' ⟨rfl, rfl⟩))
    go_wp2
    go_ret2
    exact ⟨.slice none 0 0, by simp [code, HP.out], by simpa [out, HP.out] using Own.nil, (Below.refl w.heap.size w)⟩
set_option maxHeartbeats 1000000 in
theorem impl_any {p : Int} {v u : Value} {f g : List Int} {w : World} (h : Reads w v f) (h' : Reads w u g) : Calls Try.prog 51 #[.int .i64 p, v, u] w (RetIC (out p f g) (code p f g) w) := by
  have HA := Lib.hid h
  have HB := Lib.hid h'
  clear h h'
  rcases Bool.eq_false_or_eq_true (modlB p f) with hp | hq
  · have HP := Lib.hid hp
    rcases Bool.eq_false_or_eq_true (modlB p g) with hq | hq
    · have HQ := Lib.hid hq
      obtain ⟨m1, m2, m3, m4⟩ := modlB_bd hp
      obtain ⟨n1, n2, n3, n4⟩ := modlB_bd hq
      have hp := small_bd m1
      clear hq m4 n4
      by_cases hl : (timL p f g).length ≤ 9
      · have HL := Lib.hid hl
        go_enter Try.func51, Try.ntmps51
        go_wp2_with (go_at_call 56; with_reducible refine (calls_bool (IsModular_any HA.out) HP.out).mono ?_)
        rintro _ w1 ⟨rfl, hb1⟩
        go_wp2_with (go_at_call 56; with_reducible refine (calls_bool (IsModular_any (HB.out.step hb1)) HQ.out).mono ?_)
        rintro _ w2 ⟨rfl, hb2⟩
        go_wp2_with (go_at_call 123; with_reducible refine (times_any ((HA.out.step hb1).step hb2) ((HB.out.step hb1).step hb2) (In.of (by omega) m3) (In.of (by omega) n3) hp (by omega) (by omega)).mono ?_)
        rintro _ w3 ⟨v3, rfl, o3, hb3⟩
        obtain ⟨a3, c3, rfl, k3, _⟩ := reads_nil_eq o3.reads
        go_wp2
        go_ret2
        exact ⟨.slice a3 (timL p f g).length c3, by simp [code, HP.out, HQ.out, HL.out], by simpa [out, HP.out, HQ.out, HL.out] using o3.mono (hb1.trans (hb2.mono hb1.size)).size, (hb1.trans (hb2.mono hb1.size)).trans (hb3.mono (hb1.trans (hb2.mono hb1.size)).size)⟩
      · have HL := Lib.hid hl
        go_enter Try.func51, Try.ntmps51
        go_wp2_with (go_at_call 56; with_reducible refine (calls_bool (IsModular_any HA.out) HP.out).mono ?_)
        rintro _ w1 ⟨rfl, hb1⟩
        go_wp2_with (go_at_call 56; with_reducible refine (calls_bool (IsModular_any (HB.out.step hb1)) HQ.out).mono ?_)
        rintro _ w2 ⟨rfl, hb2⟩
        go_wp2_with (go_at_call 123; with_reducible refine (times_any ((HA.out.step hb1).step hb2) ((HB.out.step hb1).step hb2) (In.of (by omega) m3) (In.of (by omega) n3) hp (by omega) (by omega)).mono ?_)
        rintro _ w3 ⟨v3, rfl, o3, hb3⟩
        obtain ⟨a3, c3, rfl, k3, _⟩ := reads_nil_eq o3.reads
        go_wp2
        go_ret2
        exact ⟨.slice none 0 0, by simp [code, HP.out, HQ.out, HL.out], by simpa [out, HP.out, HQ.out, HL.out] using Own.nil, (hb1.trans (hb2.mono hb1.size)).trans (hb3.mono (hb1.trans (hb2.mono hb1.size)).size)⟩
    · have HQ := Lib.hid hq
      clear hp hq
      go_enter Try.func51, Try.ntmps51
      go_wp2_with (go_at_call 56; with_reducible refine (calls_bool (IsModular_any HA.out) HP.out).mono ?_)
      rintro _ w1 ⟨rfl, hb1⟩
      go_wp2_with (go_at_call 56; with_reducible refine (calls_bool (IsModular_any (HB.out.step hb1)) HQ.out).mono ?_)
      rintro _ w2 ⟨rfl, hb2⟩
      go_wp2
      go_ret2
      exact ⟨.slice none 0 0, by simp [code, HP.out, HQ.out], by simpa [out, HP.out, HQ.out] using Own.nil, (hb1.trans (hb2.mono hb1.size))⟩
  · have HP := Lib.hid hq
    clear hq
    go_enter Try.func51, Try.ntmps51
    go_wp2_with (go_at_call 56; with_reducible refine (calls_bool (IsModular_any HA.out) HP.out).mono ?_)
    rintro _ w1 ⟨rfl, hb1⟩
    go_wp2
    go_ret2
    exact ⟨.slice none 0 0, by simp [code, HP.out], by simpa [out, HP.out] using Own.nil, hb1⟩
end multiplyModular

namespace commonModular
def out (p : Int) (f g : List Int) : List Int := if modlB p f then if modlB p g then comL p f g else [] else []
def code (p : Int) (f g : List Int) : Int := if modlB p f then if modlB p g then 0 else 1 else 1
set_option maxHeartbeats 1000000 in
theorem impl_any {p : Int} {v u : Value} {f g : List Int} {w : World} (h : Reads w v f) (h' : Reads w u g) : Calls Try.prog 40 #[.int .i64 p, v, u] w (RetIC (out p f g) (code p f g) w) := by
  have HA := Lib.hid h
  have HB := Lib.hid h'
  clear h h'
  rcases Bool.eq_false_or_eq_true (modlB p f) with hp | hq
  · have HP := Lib.hid hp
    rcases Bool.eq_false_or_eq_true (modlB p g) with hq | hq
    · have HQ := Lib.hid hq
      obtain ⟨p1, p2, ps, l1, i1⟩ := modl_in hp
      obtain ⟨_, _, _, l2, i2⟩ := modl_in hq
      have t2 := modl_tidy hq
      clear hp hq
      go_enter Try.func40, Try.ntmps40
      go_wp2_with (go_at_call 56; with_reducible refine (calls_bool (IsModular_any HA.out) HP.out).mono ?_)
      rintro _ w1 ⟨rfl, hb1⟩
      go_wp2_with (go_at_call 56; with_reducible refine (calls_bool (IsModular_any (HB.out.step hb1)) HQ.out).mono ?_)
      rintro _ w2 ⟨rfl, hb2⟩
      have HB2 := Lib.hid (hb1.trans (hb2.mono hb1.size))
      go_wp2_with (go_at_call 114; with_reducible refine (common_any (HA.out.step HB2.out) (HB.out.step HB2.out) i1 i2 ps (by omega) (by omega) t2).mono ?_)
      rintro _ w3 ⟨v3, rfl, o3, hb3⟩
      go_wp2
      go_ret2
      exact ⟨v3, by simp [code, HP.out, HQ.out], by simpa [out, HP.out, HQ.out] using o3.mono HB2.out.size, HB2.out.trans (hb3.mono HB2.out.size)⟩
    · have HQ := Lib.hid hq
      clear hp hq
      go_enter Try.func40, Try.ntmps40
      go_wp2_with (go_at_call 56; with_reducible refine (calls_bool (IsModular_any HA.out) HP.out).mono ?_)
      rintro _ w1 ⟨rfl, hb1⟩
      go_wp2_with (go_at_call 56; with_reducible refine (calls_bool (IsModular_any (HB.out.step hb1)) HQ.out).mono ?_)
      rintro _ w2 ⟨rfl, hb2⟩
      go_wp2
      go_ret2
      exact ⟨.slice none 0 0, by simp [code, HP.out, HQ.out], by simpa [out, HP.out, HQ.out] using Own.nil, hb1.trans (hb2.mono hb1.size)⟩
  · have HP := Lib.hid hq
    clear hq
    go_enter Try.func40, Try.ntmps40
    go_wp2_with (go_at_call 56; with_reducible refine (calls_bool (IsModular_any HA.out) HP.out).mono ?_)
    rintro _ w1 ⟨rfl, hb1⟩
    go_wp2
    go_ret2
    exact ⟨.slice none 0 0, by simp [code, HP.out], by simpa [out, HP.out] using Own.nil, hb1⟩
set_option maxHeartbeats 1000000 in
theorem spec_any {p : Int} {v u : Value} {f g : List Int} {w : World} (h : Reads w v f) (h' : Reads w u g) : Calls Try.prog 41 #[.int .i64 p, v, u] w (RetIC (out p f g) (code p f g) w) := by
  have HA := Lib.hid h
  have HB := Lib.hid h'
  clear h h'
  rcases Bool.eq_false_or_eq_true (modlB p f) with hp | hq
  · have HP := Lib.hid hp
    rcases Bool.eq_false_or_eq_true (modlB p g) with hq | hq
    · have HQ := Lib.hid hq
      obtain ⟨p1, p2, ps, l1, i1⟩ := modl_in hp
      obtain ⟨_, _, _, l2, i2⟩ := modl_in hq
      have t2 := modl_tidy hq
      clear hp hq
      go_enter Try.func41, Try.ntmps41
      go_wp2_with (first | (go_at_call 57; ((with_reducible refine (calls_bool (sIsModular_any HA.out) HP.out).mono ?_); rintro e w' ⟨rfl, rfl⟩)) | (go_at_call 57; ((with_reducible refine (calls_bool (sIsModular_any HB.out) HQ.out).mono ?_); rintro e w' ⟨rfl, rfl⟩)) | (go_at_call 115; with_reducible refine (l08Common_any HA.out HB.out i1 i2 ps (by omega) (by omega) t2).mono ?_))
      rintro _ w3 ⟨v3, rfl, o3, hb3⟩
      go_wp2
      go_ret2
      exact ⟨v3, by simp [code, HP.out, HQ.out], by simpa [out, HP.out, HQ.out] using o3, hb3⟩
    · have HQ := Lib.hid hq
      clear hp hq
      go_enter Try.func41, Try.ntmps41
      go_wp2_with (first | (go_at_call 57; ((with_reducible refine (calls_bool (sIsModular_any HA.out) HP.out).mono ?_); rintro e w' ⟨rfl, rfl⟩)) | (go_at_call 57; ((with_reducible refine (calls_bool (sIsModular_any HB.out) HQ.out).mono ?_); rintro e w' ⟨rfl, rfl⟩)))
      go_ret2
      exact ⟨.slice none 0 0, by simp [code, HP.out, HQ.out], by simpa [out, HP.out, HQ.out] using Own.nil, Below.refl _ _⟩
  · have HP := Lib.hid hq
    clear hq
    go_enter Try.func41, Try.ntmps41
    go_wp2_with (go_at_call 57; ((with_reducible refine (calls_bool (sIsModular_any HA.out) HP.out).mono ?_); rintro e w' ⟨rfl, rfl⟩))
    go_ret2
    exact ⟨.slice none 0 0, by simp [code, HP.out], by simpa [out, HP.out] using Own.nil, Below.refl _ _⟩
end commonModular

namespace derivativeModular
def out (p : Int) (f : List Int) : List Int := if modlB p f then derP p f else []
def code (p : Int) (f : List Int) : Int := if modlB p f then 0 else 1
set_option maxHeartbeats 1000000 in
theorem impl_any {p : Int} {v : Value} {f : List Int} {w : World} (h : Reads w v f) : Calls Try.prog 45 #[.int .i64 p, v] w (RetIC (out p f) (code p f) w) := by
  have HA := Lib.hid h
  clear h
  rcases Bool.eq_false_or_eq_true (modlB p f) with hp | hp
  · have HP := Lib.hid hp
    obtain ⟨p1, p2, ps, l1, i1⟩ := modl_in hp
    obtain ⟨d1, d2, d3, d4⟩ := derP_facts (f := f) ⟨p1, p2⟩ l1
    have HD := Lib.hid (derL_in p2 i1)
    clear hp d2 d3 i1
    go_enter Try.func45, Try.ntmps45
    go_wp2_with (go_at_call 56; with_reducible refine (calls_bool (IsModular_any HA.out) HP.out).mono ?_)
    rintro _ w1 ⟨rfl, hb1⟩
    have HB1 := Lib.hid hb1
    clear hb1
    go_wp2_with (go_at_call 118; with_reducible refine (derivative_any (HA.out.step HB1.out) HD.out ⟨by omega, by omega⟩ (by omega)).mono ?_)
    rintro _ w2 ⟨v2, rfl, o2, hb2⟩
    have HB2 := Lib.hid (HB1.out.trans (hb2.mono HB1.out.size))
    go_wp2_with (go_at_call 117; with_reducible refine (reduce_any o2.reads ⟨by omega, by omega⟩ (by omega)).mono ?_)
    rintro _ w3 ⟨v3, rfl, o3, hb3⟩
    have HB3 := Lib.hid (HB2.out.trans (hb3.mono HB2.out.size))
    go_wp2
    go_ret2
    exact ⟨v3, by simp [code, HP.out], by simpa [out, HP.out, derP] using o3.mono HB2.out.size, HB3.out⟩
  · have HP := Lib.hid hp
    clear hp
    go_enter Try.func45, Try.ntmps45
    go_wp2_with (go_at_call 56; with_reducible refine (calls_bool (IsModular_any HA.out) HP.out).mono ?_)
    rintro _ w1 ⟨rfl, hb1⟩
    go_wp2
    go_ret2
    exact ⟨.slice none 0 0, by simp [code, HP.out], by simpa [out, HP.out] using Own.nil, hb1⟩
set_option maxHeartbeats 1000000 in
theorem spec_any {p : Int} {v : Value} {f : List Int} {w : World} (h : Reads w v f) : Calls Try.prog 46 #[.int .i64 p, v] w (RetIC (out p f) (code p f) w) := by
  have HA := Lib.hid h
  clear h
  rcases Bool.eq_false_or_eq_true (modlB p f) with hp | hp
  · have HP := Lib.hid hp
    obtain ⟨p1, p2, ps, l1, i1⟩ := modl_in hp
    have HD := Lib.hid (derL_in p2 i1)
    clear hp i1
    go_enter Try.func46, Try.ntmps46
    go_wp2_with (first | (go_at_call 57; ((with_reducible refine (calls_bool (sIsModular_any HA.out) HP.out).mono ?_); rintro e w' ⟨rfl, rfl⟩)) | (go_at_call 119; with_reducible refine (l08Derivative_any HA.out HD.out ⟨p1, p2⟩ (by omega)).mono ?_))
    rintro _ w3 ⟨v3, rfl, o3, hb3⟩
    go_wp2
    go_ret2
    exact ⟨v3, by simp [code, HP.out], by simpa [out, HP.out] using o3, hb3⟩
  · have HP := Lib.hid hp
    clear hp
    go_enter Try.func46, Try.ntmps46
    go_wp2_with (go_at_call 57; ((with_reducible refine (calls_bool (sIsModular_any HA.out) HP.out).mono ?_); rintro e w' ⟨rfl, rfl⟩))
    go_ret2
    exact ⟨.slice none 0 0, by simp [code, HP.out], by simpa [out, HP.out] using Own.nil, Below.refl _ _⟩
end derivativeModular

end Go.Proofs.Ytlndfjplhfgicaa
