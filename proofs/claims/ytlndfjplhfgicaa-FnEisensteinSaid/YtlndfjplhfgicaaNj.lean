/- Contracts: a prime and a polynomial by it are drawn. -/
import Derived.Test.YtlndfjplhfgicaaNh
import Derived.Test.YtlndfjplhfgicaaOa
namespace Go.Proofs.Ytlndfjplhfgicaa
open Go.RowKit
set_option linter.unusedVariables false
set_option linter.unusedSimpArgs false

theorem below_grownS {w w' : World} (r : Option Nat) (h : Below w.heap.size w w') : w.grownBy w' r := ⟨h.os, h.tape, h.output, h.size, fun k hk _ => h.block k hk⟩
theorem Own.kept_src {w w' : World} {lo b : Nat} {v : Value} {zs : List Int} (h : Own w lo v zs) (hb : b < lo) (hg : w.grownBy w' (some b)) : Own w' lo v zs := by
  refine h.kept hg ?_
  cases hv : v.ownBlock with
  | none => exact .inl rfl
  | some k => right; intro e; injection e with e; have := (h.lt k hv).1; omega
/-- What lies above the first world's blocks may change. -/
theorem grown_below {w w1 w2 : World} {r : Option Nat} (h : w.grownBy w1 r) (k : Below w.heap.size w1 w2) : w.grownBy w2 r :=
  ⟨k.os.trans h.os, k.tape.trans h.tape, k.output.trans h.output, Nat.le_trans h.size k.size, fun i hi hr => (k.block i hi).trans (h.block i hi hr)⟩
theorem Src.below {w w' : World} {lo b B : Nat} {bs : List Int} (h : Src w lo b bs) (hb : b < B) (hB : Below B w w') : Src w' lo b bs := by
  obtain ⟨v, a, s, h⟩ := h
  have h2 := h.lb
  exact ⟨v, a, s, h2, by rw [hB.block b hb]; exact h.heap, h.bytes.kept (fun k hk => hB.block k (by omega)), h.a0, h.a1, h.s0, h.s1⟩
theorem Own.pair {w : World} {lo : Nat} (h : lo ≤ w.heap.size) (x y : Int) : Own (w.alloc (.cells #[.int .i64 x, .int .i64 y] 2)) lo (.slice (some ⟨w.heap.size, 0, none⟩) 2 2) [x, y] := by
  refine ⟨by simp, by simp, .inr ⟨w.heap.size, 2, #[.int .i64 x, .int .i64 y], rfl, h, ?_, by simp, by simp [maxLen], by simp, by simp⟩⟩
  show (w.heap.push _)[w.heap.size]? = _
  simp
theorem In.snoc {p x : Int} {l : List Int} (hp : 1 ≤ p) (h : In p l) (hx : 0 ≤ x ∧ x < p) : In p (l ++ [x]) := In.of hp (by
  intro y hy
  rcases List.mem_append.1 hy with hy | hy
  · exact h.all y hy
  · simp at hy; rw [hy]; exact hx)
/-- A slice of its own comes back, and the source goes on. -/
def RetDrawS (zs : List Int) (lo b : Nat) (bs : List Int) (w : World) (e : Ending) (w' : World) : Prop := ∃ v, e = .returned v ∧ Own w' w.heap.size v zs ∧ Src w' lo b bs ∧ w.grownBy w' (some b)

set_option maxHeartbeats 4000000 in
theorem l08DrawPrime_any {lo b : Nat} {bs : List Int} {w : World} (h : Src w lo b bs) :
    Calls Try.prog 125 #[.pointer (some ⟨b, 0, none⟩)] w (RetDraw 1000000000001 lo b bs w) := by
  have HS := Lib.hid h
  clear h
  go_enter Try.func125, Try.ntmps125
  go_wp2_with (go_at_call 82; with_reducible refine (l01Next_any HS.out 30 (by omega) (by omega)).mono ?_)
  rintro _ w1 ⟨r, rfl, r0, r1, hs1, hg1⟩
  have HS1 := Lib.hid hs1
  have HG1 := Lib.hid hg1
  have hb1 := hs1.lt
  clear hs1 hg1
  by_cases hr : r = 0
  · subst hr
    go_wp2_with (go_at_call 81; with_reducible refine (l01DrawPrime_any HS1.out).mono ?_)
    rintro _ w2 ⟨x, rfl, x0, x1, hs2, hg2⟩
    go_wp2
    go_ret
    exact ⟨x, rfl, x0, x1, hs2, grownT HG1.out hg2⟩
  · have hr' : (r == 0) = false := by simpa using hr
    have hp := Lib.hid (l01Pick_any (n := 7) (g := w1.heap.size) (zs := [2, 3, 5, 7, 2, 3, 13]) (w := w1.alloc (.cells #[.int .i64 2, .int .i64 3, .int .i64 5, .int .i64 7, .int .i64 2, .int .i64 3, .int .i64 13] 2)) (HS1.out.step (below_box _)) rfl (by decide) (by decide) (by simp) (by omega) (list_new (zs := [2, 3, 5, 7, 2, 3, 13])))
    go_wp2_with (go_at_call 83; (with_reducible refine hp.out.mono ?_))
    rintro e w6 ⟨i, hi, rfl, hs6, hg6⟩
    go_wp2
    go_ret
    have hi' : i = 0 ∨ i = 1 ∨ i = 2 ∨ i = 3 ∨ i = 4 ∨ i = 5 ∨ i = 6 := by omega
    refine ⟨_, rfl, ?_, ?_, hs6, grownT HG1.out (grownT (grown_alloc _) hg6)⟩
    · rcases hi' with rfl | rfl | rfl | rfl | rfl | rfl | rfl <;> decide
    · rcases hi' with rfl | rfl | rfl | rfl | rfl | rfl | rfl <;> decide

set_option maxHeartbeats 8000000 in
theorem l08Valid_any {lo b : Nat} {bs : List Int} {w : World} {p d : Int} (h : Src w lo b bs) (hs : smallB p = true) (hd : 0 ≤ d ∧ d ≤ 8) :
    Calls Try.prog 165 #[.pointer (some ⟨b, 0, none⟩), .int .i64 p, .int .i64 d] w fun e w' => ∃ zs, zs.length ≤ 9 ∧ In p zs ∧ RetDrawS zs lo b bs w e w' := by
  have hbw := h.lt
  have hlo := h.lo
  have hp := small_bd hs
  have HS := Lib.hid h
  have HO := Lib.hid (Own.empty (w := w) (lo := w.heap.size) (Nat.le_refl _))
  have hn := Lib.hid (l01Next_any (w := w.alloc (.cells #[] 2)) (HS.out.step (below_box _)) (d + 1) (by omega) (by omega))
  clear h hs
  go_enter Try.func165, Try.ntmps165
  go_wp2_with (go_at_call 82; (with_reducible refine hn.out.mono ?_))
  rintro e w1 ⟨r, rfl, r0, r1, hs1, hg1⟩
  have HO1 := Lib.hid (HO.out.kept_src hbw hg1)
  have HS1 := Lib.hid hs1
  have HG1 := Lib.hid (grownT (grown_alloc _) hg1)
  clear hs1 hg1 hn HO
  go_wp2
  go_loopw [7, 8] (fun o c wr => ∃ (k : Nat) (zs : List Int), c = .int .i64 (k : Int) ∧ k + zs.length ≤ 8 ∧ Hid (In p zs) ∧ Own wr w.heap.size o zs ∧ Src wr lo b bs ∧ w.grownBy wr (some b)) (fun _ c _ => (intOf c).toNat)
  case atStart => exact ⟨r.toNat, [], by rw [Int.toNat_of_nonneg r0], by simp; omega, Lib.hid (fun k => by rw [el_out (by simp)]; omega), HO1.out, HS1.out, HG1.out⟩
  case round =>
    clear HO1 HS1 HG1
    obtain ⟨k, zs, rfl, hk, HI, hown, hsrc, hgr⟩ := hrel
    have HO := Lib.hid hown
    have HR := Lib.hid hsrc
    have HG := Lib.hid hgr
    clear hown hsrc hgr
    by_cases hlt : 0 < k
    · go_wp2_with (go_at_call 82; with_reducible refine (l01Next_any HR.out p (by omega) (by omega)).mono ?_)
      rintro _ w2 ⟨x, rfl, x0, x1, hs2, hg2⟩
      have HR2 := Lib.hid hs2
      have HO2 := Lib.hid (HO.out.kept_src hbw hg2)
      have HG2 := Lib.hid (grownT HG.out hg2)
      clear hs2 hg2 HR HO HG
      go_wp2_with (go_at_call 82; with_reducible refine (l01Next_any HR2.out p (by omega) (by omega)).mono ?_)
      rintro _ w3 ⟨y, rfl, y0, y1, hs3, hg3⟩
      have HR3 := Lib.hid hs3
      have HO3 := Lib.hid (HO2.out.kept_src hbw hg3)
      have HG3 := Lib.hid (grownT HG2.out hg3)
      have hb3 := hs3.lt
      clear hs3 hg3 HR2 HO2 HG2
      have hpk := Lib.hid (l01Pick_any (n := 3) (g := w3.heap.size) (zs := [x, 0, y]) (w := w3.alloc (.cells #[.int .i64 x, .int .i64 0, .int .i64 y] 2)) (HR3.out.step (below_box _)) rfl (by decide) (by decide) (by simp) (by omega) (list_new (zs := [x, 0, y])))
      go_wp2_with (go_at_call 83; (with_reducible refine hpk.out.mono ?_))
      rintro e w4 ⟨i, hi, rfl, hs4, hg4⟩
      obtain ⟨P, hP, hP0, hP1⟩ : ∃ P, el [x, 0, y] i = P ∧ 0 ≤ P ∧ P < p := by
        have hi' : i = 0 ∨ i = 1 ∨ i = 2 := by omega
        refine ⟨_, rfl, ?_, ?_⟩
        · rcases hi' with rfl | rfl | rfl <;> simp [el] <;> omega
        · rcases hi' with rfl | rfl | rfl <;> simp [el] <;> omega
      rw [hP]
      have HR4 := Lib.hid hs4
      have HO4 := Lib.hid ((HO3.out.step (below_box _)).kept_src hbw hg4)
      have HG4 := Lib.hid (grownT HG3.out (grownT (grown_alloc _) hg4))
      have HI4 := Lib.hid (HI.out.snoc (by omega) ⟨hP0, hP1⟩)
      have hsz := HG4.out.size
      have hzl : zs.length + 1 ≤ 1099511627776 := by omega
      clear hs4 hg4 HR3 HO3 HG3 hpk hP hi
      go_wp2_with (at_builtin; refine append_one _ rfl _ _ rfl rfl HO4.out hzl hsz rfl ?_)
      intro vv w5 hown5 hbel5
      go_wp2
      go_roundw
      case rel => exact ⟨k - 1, zs ++ [P], by rw [show ((k - 1 : Nat) : Int) = (k : Int) - 1 by omega], by simp; omega, HI4, hown5, HR4.out.below hbw hbel5, grown_below HG4.out hbel5⟩
      case measure => simp [intOf]; omega
    · obtain rfl : k = 0 := by omega
      go_wp2_with (go_at_call 82; with_reducible refine (l01Next_any HR.out (p - 1) (by omega) (by omega)).mono ?_)
      rintro _ w2 ⟨x, rfl, x0, x1, hs2, hg2⟩
      have HR2 := Lib.hid hs2
      have HO2 := Lib.hid (HO.out.kept_src hbw hg2)
      have HG2 := Lib.hid (grownT HG.out hg2)
      clear hs2 hg2 HR HO HG
      go_wp2_with (go_at_call 82; with_reducible refine (l01Next_any HR2.out 2 (by omega) (by omega)).mono ?_)
      rintro _ w3 ⟨y, rfl, y0, y1, hs3, hg3⟩
      have HR3 := Lib.hid hs3
      have HO3 := Lib.hid (HO2.out.kept_src hbw hg3)
      have HG3 := Lib.hid (grownT HG2.out hg3)
      clear hs3 hg3 HR2 HO2 HG2
      have hy : y = 0 ∨ y = 1 := by omega
      have hxy : 0 ≤ x * y ∧ x * y ≤ 96 := by rcases hy with rfl | rfl <;> omega
      have hxp : 1 + x * y < p := by rcases hy with rfl | rfl <;> omega
      have HI4 := Lib.hid (HI.out.snoc (x := 1 + x * y) (by omega) ⟨by omega, hxp⟩)
      have hsz := HG3.out.size
      have hzl : zs.length + 1 ≤ 1099511627776 := by omega
      go_wp2_with (at_builtin; refine append_one _ rfl _ _ rfl rfl HO3.out hzl hsz rfl ?_)
      intro vv w5 hown5 hbel5
      go_wp2
      go_ret
      exact ⟨zs ++ [1 + x * y], by simp; omega, HI4.out, vv, rfl, hown5, HR3.out.below hbw hbel5, grown_below HG3.out hbel5⟩

end Go.Proofs.Ytlndfjplhfgicaa
