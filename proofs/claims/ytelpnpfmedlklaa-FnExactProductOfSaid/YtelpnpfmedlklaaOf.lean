/- Contracts: remainders and products of polynomials. -/
import Derived.Test.YtelpnpfmedlklaaOe
namespace Go.Proofs.Ytelpnpfmedlklaa
open Go.RowKit
set_option linter.unusedVariables false
set_option linter.unusedSimpArgs false

theorem Reads.el_i64 {w : World} {v : Value} {f : List Int} (h : Reads w v f) : True := trivial
def redM (m : Int) (f : List Int) : List Int := f.map (· % m)
theorem redM_el {m : Int} {f : List Int} {k : Nat} (h : k < f.length) : el (redM m f) k = el f k % m := by
  simp only [redM, el, List.getD_eq_getElem?_getD, List.getElem?_map, List.getElem?_eq_getElem h]; rfl
theorem redM_len (m : Int) (f : List Int) : (redM m f).length = f.length := by simp [redM]
theorem take_next {l : List Int} {k : Nat} (h : k < l.length) : l.take k ++ [el l k] = l.take (k + 1) := by
  rw [List.take_add_one, el_get h]; rfl
theorem redM_next {m : Int} {f : List Int} {k : Nat} (h : k < f.length) : (redM m f).take k ++ [el f k % m] = (redM m f).take (k + 1) := by
  rw [← redM_el h, take_next (by rw [redM_len]; exact h)]
theorem redM_all {m : Int} {f : List Int} {k : Nat} (h : f.length ≤ k) : (redM m f).take k = redM m f := List.take_of_length_le (by rw [redM_len]; exact h)

set_option maxHeartbeats 1000000 in
theorem reduce_any {m : Int} {v : Value} {f : List Int} {w : World} (h : Reads w v f) (hm : 1 ≤ m ∧ m ≤ 1000000000) (hlen : f.length ≤ 100000) :
    Calls Try.prog 36 #[.int .i64 m, v] w (RetInts (redL m f) w) := by
  obtain ⟨a, cap, rfl, h1, h2⟩ := reads_nil_eq h
  have HR := Lib.hid h
  clear h h2
  go_enter Try.func36, Try.ntmps36
  go_wp2
  go_loopw [5, 10] (fun l c wr => ∃ k : Nat, c = .int .i64 (k : Int) ∧ k ≤ f.length ∧ Own wr w.heap.size l ((redM m f).take k) ∧ Below w.heap.size w wr) (fun _ c _ => f.length - (intOf c).toNat)
  case atStart => exact ⟨0, rfl, by omega, Own.nil, Below.refl _ _⟩
  case round =>
    obtain ⟨k, rfl, hk, hown, hbel⟩ := hrel
    have HO := Lib.hid hown
    have HW := Lib.hid hbel
    clear hown hbel
    have HR1 := Lib.hid (HR.out.step HW.out)
    by_cases hlt : k < f.length
    · obtain ⟨b, o, rfl, hc⟩ := HR1.out.at hlt
      have hL : ((redM m f).take k).length + 1 ≤ 1099511627776 := by rw [List.length_take]; omega
      go_wp2_with (first | (go_at_call 41; ((with_reducible refine (mod_any _ _ _ hm.1 (by omega)).mono ?_); rintro e w' ⟨rfl, rfl⟩)) | (at_builtin; refine append_one _ rfl _ _ rfl rfl HO.out hL HW.out.size rfl ?_))
      intro vv w1 hown1 hbel1
      rw [redM_next hlt] at hown1
      have HO1 := Lib.hid hown1
      have HW1 := Lib.hid (HW.out.trans hbel1)
      clear hown1 hbel1
      go_wp2
      go_roundw
      case rel => exact ⟨k + 1, by go_num, by omega, HO1.out, HW1.out⟩
      case measure => simp [intOf]; omega
    · have HE := Lib.hid (show Own wr w.heap.size u5 (redM m f) by have := HO.out; rw [redM_all (by omega)] at this; exact this)
      go_wp2_with (go_at_call 42; with_reducible refine (trim_any HE.out.reads).mono ?_)
      rintro _ w1 ⟨v1, rfl, o1, b1⟩
      go_wp2
      go_ret
      exact ⟨v1, rfl, o1.mono HW.out.size, HW.out.trans (b1.mono HW.out.size)⟩

set_option maxHeartbeats 1000000 in
theorem l08Reduce_any {m : Int} {v : Value} {f : List Int} {w : World} (h : Reads w v f) (hm : 1 ≤ m ∧ m ≤ 1000000000) (hlen : f.length ≤ 100000) :
    Calls Try.prog 29 #[.int .i64 m, v] w (RetInts (redL m f) w) := by
  obtain ⟨a, cap, rfl, h1, h2⟩ := reads_nil_eq h
  have HR := Lib.hid h
  clear h h2
  go_enter Try.func29, Try.ntmps29
  go_wp2
  go_loopw [5, 6] (fun l c wr => ∃ k : Nat, c = .int .i64 (k : Int) ∧ k ≤ f.length ∧ Own wr w.heap.size l ((redM m f).take k) ∧ Below w.heap.size w wr) (fun _ c _ => f.length - (intOf c).toNat)
  case atStart => exact ⟨0, rfl, by omega, own_empty (Nat.le_refl _), below_box _⟩
  case round =>
    obtain ⟨k, rfl, hk, hown, hbel⟩ := hrel
    have HO := Lib.hid hown
    have HW := Lib.hid hbel
    clear hown hbel
    have HR1 := Lib.hid (HR.out.step HW.out)
    by_cases hlt : k < f.length
    · obtain ⟨b, o, rfl, hc⟩ := HR1.out.at hlt
      have hL : ((redM m f).take k).length + 1 ≤ 1099511627776 := by rw [List.length_take]; omega
      go_wp2_with (first | (go_at_call 38; ((with_reducible refine (l01Mod_any _ _ _ hm.1 (by omega)).mono ?_); rintro e w' ⟨rfl, rfl⟩)) | (at_builtin; refine append_one _ rfl _ _ rfl rfl HO.out hL HW.out.size rfl ?_))
      intro vv w1 hown1 hbel1
      rw [redM_next hlt] at hown1
      have HO1 := Lib.hid hown1
      have HW1 := Lib.hid (HW.out.trans hbel1)
      clear hown1 hbel1
      go_wp2
      go_roundw
      case rel => exact ⟨k + 1, by go_num, by omega, HO1.out, HW1.out⟩
      case measure => simp [intOf]; omega
    · have HE := Lib.hid (show Own wr w.heap.size u5 (redM m f) by have := HO.out; rw [redM_all (by omega)] at this; exact this)
      go_wp2_with (go_at_call 39; with_reducible refine (l06Trim_any HE.out.reads).mono ?_)
      rintro _ w1 ⟨v1, rfl, o1, b1⟩
      go_wp2
      go_ret
      exact ⟨v1, rfl, o1.mono HW.out.size, HW.out.trans (b1.mono HW.out.size)⟩

end Go.Proofs.Ytelpnpfmedlklaa
