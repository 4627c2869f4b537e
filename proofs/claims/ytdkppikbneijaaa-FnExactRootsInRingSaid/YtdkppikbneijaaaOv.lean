/- Contracts: RootsModular, ReducePolynomial. -/
import Derived.Test.YtdkppikbneijaaaOt
import Derived.Test.YtdkppikbneijaaaOq
namespace Go.Proofs.Ytdkppikbneijaaa
open Go.RowKit
set_option linter.unusedVariables false
set_option linter.unusedSimpArgs false

/-- The roots below k. -/
def rtL (p : Int) (f : List Int) : Nat → List Int
  | 0 => []
  | k + 1 => if valM p f k = 0 then rtL p f k ++ [(k : Int)] else rtL p f k
theorem rtL_len (p : Int) (f : List Int) : ∀ k, (rtL p f k).length ≤ k
  | 0 => Nat.le_refl _
  | k + 1 => by
    have := rtL_len p f k
    rw [rtL]; split
    · simp; omega
    · omega
theorem rtL_mem (p : Int) (f : List Int) : ∀ k, ∀ x ∈ rtL p f k, 0 ≤ x ∧ x < k ∧ valM p f x = 0
  | 0, x, h => by simp [rtL] at h
  | k + 1, x, h => by
    have ih := rtL_mem p f k
    rw [rtL] at h
    split at h
    · rcases List.mem_append.1 h with h | h
      · have := ih x h; exact ⟨this.1, by omega, this.2.2⟩
      · simp at h; subst h; exact ⟨by omega, by omega, by assumption⟩
    · have := ih x h; exact ⟨this.1, by omega, this.2.2⟩
theorem modl_bd8 {p : Int} {f : List Int} (hp : p ≤ 97) (h : In p f) : Bd 8000000 f := fun k => by have := h k; omega
namespace rootsModular
def code (p : Int) (f : List Int) : Int := if modlB p f then if f.length = 0 then 4 else 0 else 1
def out (p : Int) (f : List Int) : List Int := if modlB p f then if f.length = 0 then [] else rtL p f p.toNat else []
set_option maxHeartbeats 4000000 in
theorem rootsBy_any {p : Int} {v : Value} {f : List Int} {w : World} (h : Reads w v f) (hf : In p f) (hp : 2 ≤ p ∧ p ≤ 97) (hl : f.length ≤ 9) :
    Calls Try.prog 42 #[.int .i64 p, v] w (RetInts (rtL p f p.toNat) w) := by
  have HR := Lib.hid h
  have HF := Lib.hid (modl_bd8 hp.2 hf)
  clear h hf
  go_enter Try.func42, Try.ntmps42
  go_wp2
  go_loopw [5, 8] (fun l c wr => ∃ k : Nat, c = .int .i64 (k : Int) ∧ (k : Int) ≤ p ∧ Own wr w.heap.size l (rtL p f k) ∧ Below w.heap.size w wr) (fun _ c _ => (p - intOf c).toNat)
  case atStart => exact ⟨0, rfl, by omega, Own.nil, Below.refl _ _⟩
  case round =>
    obtain ⟨k, rfl, hk, hown, hbel⟩ := hrel
    have HO := Lib.hid hown
    have HW := Lib.hid hbel
    have hsw := hbel.size
    have HRW := Lib.hid (HR.out.step HW.out)
    clear hown hbel
    by_cases hlt : (k : Int) < p
    · by_cases hv : valM p f k = 0
      · have HN := Lib.hid (show rtL p f (k + 1) = rtL p f k ++ [(k : Int)] by rw [rtL, if_pos hv])
        have hlen : (rtL p f k).length + 1 ≤ 1099511627776 := by have := rtL_len p f k; omega
        have HV := Lib.hid hv
        clear hv
        go_wp2_with (first | (go_at_call 56; ((with_reducible refine (calls_int (valueBy_any HRW.out HF.out ⟨by omega, by omega⟩ ⟨by omega, hlt⟩ (by omega)) HV.out).mono ?_); rintro e w' ⟨rfl, rfl⟩)) | (at_builtin; refine append_one _ rfl _ _ rfl rfl HO.out hlen hsw rfl ?_))
        intro vv w3 hown1 hbel1
        rw [← HN.out] at hown1
        have HO3 := Lib.hid hown1
        have HW3 := Lib.hid (HW.out.trans hbel1)
        clear hown1 hbel1
        go_wp2
        go_roundw
        case rel => exact ⟨k + 1, by go_num, by omega, HO3.out, HW3.out⟩
        case measure => simp [intOf]; omega
      · have HN := Lib.hid (show rtL p f (k + 1) = rtL p f k by rw [rtL, if_neg hv])
        have hvb : (valM p f k == 0) = false := by simpa using hv
        clear hv
        go_wp2_with (go_at_call 56; ((with_reducible refine (valueBy_any HRW.out HF.out ⟨by omega, by omega⟩ ⟨by omega, hlt⟩ (by omega)).mono ?_); rintro e w' ⟨rfl, rfl⟩))
        go_roundw
        case rel => exact ⟨k + 1, by go_num, by omega, by rw [HN.out]; exact HO.out, HW.out⟩
        case measure => simp [intOf]; omega
    · have HE := Lib.hid (show rtL p f p.toNat = rtL p f k by rw [show p.toNat = k by omega])
      go_wp2
      go_ret
      exact ⟨_, rfl, by rw [HE.out]; exact HO.out, HW.out⟩
end rootsModular

namespace reducePolynomial
def code (p : Int) (f : List Int) : Int := if smallB p then if polyB f then 0 else 1 else 1
def out (p : Int) (f : List Int) : List Int := if smallB p then if polyB f then redL p f else [] else []
end reducePolynomial

end Go.Proofs.Ytdkppikbneijaaa
