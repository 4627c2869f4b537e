/- Contracts: permutations are drawn. -/
import Derived.Test.YtcecmjnbhppocaaDoorNg
import Derived.Test.YtcecmjnbhppocaaDoorUa
namespace Go.Proofs.YtcecmjnbhppocaaDoor
open Go.RowKit
set_option linter.unusedVariables false
set_option linter.unusedSimpArgs false

theorem below_grownR {w w' : World} (r : Option Nat) (h : Below w.heap.size w w') : w.grownBy w' r := ⟨h.os, h.tape, h.output, h.size, fun k hk _ => h.block k hk⟩
theorem Own.keptB {w w' : World} {lo b : Nat} {v : Value} {zs : List Int} (h : Own w lo v zs) (hb : b < lo) (hg : w.grownBy w' (some b)) : Own w' lo v zs := by
  refine h.kept hg ?_
  cases hv : v.ownBlock with
  | none => exact .inl rfl
  | some k => right; intro e; injection e with e; have := (h.lt k hv).1; omega
theorem Own.list {w : World} {lo : Nat} (h : lo ≤ w.heap.size) (zs : List Int) (hl : zs.length ≤ 1000) : Own (w.alloc (.cells ⟨zs.map (Value.int .i64)⟩ 2)) lo (.slice (some ⟨w.heap.size, 0, none⟩) zs.length zs.length) zs := by
  refine ⟨by omega, by simp, .inr ⟨w.heap.size, zs.length, ⟨zs.map (Value.int .i64)⟩, rfl, h, ?_, by simp, by unfold maxLen; omega, by simp, List.take_of_length_le (by simp)⟩⟩
  show (w.heap.push _)[w.heap.size]? = _
  simp
theorem Own.cut {w : World} {lo g n cap m : Nat} {zs : List Int} (h : Own w lo (.slice (some ⟨g, 0, none⟩) n cap) zs) (hm : m ≤ n) : Own w lo (.slice (some ⟨g, 0, none⟩) m cap) (zs.take m) := by
  have := (own_to_V h).cut hm
  rw [← List.map_take] at this
  exact own_of_V this
/-- A slice of its own comes back, and the source goes on. -/
def RetDrawL (zs : List Int) (lo b : Nat) (bs : List Int) (w : World) (e : Ending) (w' : World) : Prop := ∃ v, e = .returned v ∧ Own w' w.heap.size v zs ∧ Src w' lo b bs ∧ w.grownBy w' (some b)

set_option maxHeartbeats 4000000 in
theorem l21Valid_any {lo b : Nat} {bs : List Int} {w : World} (h : Src w lo b bs) :
    Calls Tryd.prog 31 #[.pointer (some ⟨b, 0, none⟩)] w fun e w' => ∃ zs, permB zs = true ∧ RetDrawL zs lo b bs w e w' := by
  have HS := Lib.hid h
  clear h
  go_enter Tryd.func31, Tryd.ntmps31
  go_wp2_with (go_at_call 32; with_reducible refine (l01Next_any HS.out 6 (by omega) (by omega)).mono ?_)
  rintro _ w1 ⟨r, rfl, r0, r1, hs1, hg1⟩
  have HS1 := Lib.hid hs1
  have HG1 := Lib.hid hg1
  have hb1 := hs1.lt
  clear hs1 hg1
  have hp := Lib.hid (l01Pick_any (n := 4) (g := w1.heap.size) (zs := [4, 5, 6, 1 + r]) (w := w1.alloc (.cells #[.int .i64 4, .int .i64 5, .int .i64 6, .int .i64 (1 + r)] 2)) (HS1.out.step (below_box _)) rfl (by decide) (by decide) (by simp) (by omega) (list_new (zs := [4, 5, 6, 1 + r])))
  go_wp2_with (go_at_call 48; (with_reducible refine hp.out.mono ?_))
  rintro e w2 ⟨i, hi, rfl, hs2, hg2⟩
  have HS2 := Lib.hid hs2
  have HG2 := Lib.hid (grownT HG1.out (grownT (grown_alloc _) hg2))
  obtain ⟨m, hN, hN0, hN1⟩ : ∃ m : Nat, el [4, 5, 6, 1 + r] i = m ∧ 1 ≤ m ∧ m ≤ 6 := by
    have hi' : i = 0 ∨ i = 1 ∨ i = 2 ∨ i = 3 := by omega
    rcases hi' with rfl | rfl | rfl | rfl
    · exact ⟨4, rfl, by omega, by omega⟩
    · exact ⟨5, rfl, by omega, by omega⟩
    · exact ⟨6, rfl, by omega, by omega⟩
    · exact ⟨(1 + r).toNat, by simp [el]; omega, by omega, by omega⟩
  rw [hN]
  clear hs2 hg2 hN hi hp HS1 HG1
  have hf := factZ_bd (n := m) (by omega)
  go_wp2_with (go_at_call 50; ((with_reducible refine (l21Factorial_int _ _ (by omega) (by omega)).mono ?_); rintro e w' ⟨rfl, rfl⟩))
  go_wp2_with (go_at_call 32; with_reducible refine (l01Next_any HS2.out (factZ m) (by omega) (by omega)).mono ?_)
  rintro _ w3 ⟨q, rfl, q0, q1, hs3, hg3⟩
  have HS3 := Lib.hid hs3
  have HG3 := Lib.hid (grownT HG2.out hg3)
  clear hs3 hg3 HS2 HG2
  have q2 : q < factZ m := by omega
  have hgs := HG3.out.size
  go_wp2_with (go_at_call 49; with_reducible refine (l21With_any m q _ hN1 q0 q2).mono ?_)
  rintro _ w4 ⟨v, rfl, o4, hb4⟩
  go_wp2
  go_ret
  exact ⟨_, (with_rank hN0 hN1 q0 q2).1, v, rfl, o4.mono hgs, HS3.out.step hb4, grownT HG3.out (below_grownR _ hb4)⟩

set_option maxHeartbeats 4000000 in
theorem l21Draw_any {lo b : Nat} {bs : List Int} {w : World} (h : Src w lo b bs) :
    Calls Tryd.prog 29 #[.pointer (some ⟨b, 0, none⟩)] w fun e w' => ∃ zs, RetDrawL zs lo b bs w e w' := by
  have hbw := h.lt
  have HS := Lib.hid h
  clear h
  go_enter Tryd.func29, Tryd.ntmps29
  go_wp2_with (go_at_call 31; with_reducible refine (l21Valid_any HS.out).mono ?_)
  rintro _ w1 ⟨zs, hp, v, rfl, o1, hs1, hg1⟩
  have hp1 := (permB_bd hp).1
  have hp2 := (permB_bd hp).2.1
  obtain ⟨g, cap, rfl, g1, g2, g3, g4⟩ := o1.head (by omega)
  have HO1 := Lib.hid o1
  have HS1 := Lib.hid hs1
  have HG1 := Lib.hid hg1
  clear o1 hs1 hg1 hp
  go_wp2_with (go_at_call 32; with_reducible refine (l01Next_any HS1.out 24 (by omega) (by omega)).mono ?_)
  rintro _ w2 ⟨r, rfl, r0, r1, hs2, hg2⟩
  have HO2 := Lib.hid (HO1.out.keptB hbw hg2)
  have HS2 := Lib.hid hs2
  have HG2 := Lib.hid (grownT HG1.out hg2)
  have hsz := HG2.out.size
  clear hs2 hg2 HO1 HS1 HG1
  obtain ⟨n, hn⟩ : ∃ n, zs.length = n := ⟨_, rfl⟩
  have HN := Lib.hid hn
  rw [hn] at HO2 hp1 hp2 g3 ⊢
  clear hn
  by_cases hr : r = 0
  · subst hr
    go_wp2_with (go_at_call 32; with_reducible refine (l01Next_any HS2.out 8 (by omega) (by omega)).mono ?_)
    rintro _ w3 ⟨q, rfl, q0, q1, hs3, hg3⟩
    have HO3 := Lib.hid (HO2.out.keptB hbw hg3)
    have HS3 := Lib.hid hs3
    have HG3 := Lib.hid (grownT HG2.out hg3)
    have hb3 := hs3.lt
    clear hs3 hg3
    have f2 := HO3.out.cellAt (i := 0) (by have := HN.out; omega)
    have f3 := HO3.out.frozenAt 0
    go_wp2
    go_ret
    obtain ⟨k1, k2⟩ := HO3.out.stored 0 (q - 1)
    refine ⟨_, _, rfl, k1, HS3.out.kept k2 ?_ ?_, ?_⟩
    · intro k hk; injection hk with hk; have := HS3.out.lo; omega
    · intro e; injection e with e; omega
    · exact ⟨k2.os.trans HG3.out.os, k2.tape.trans HG3.out.tape, k2.output.trans HG3.out.output, Nat.le_trans HG3.out.size k2.size, fun i hi hne => (k2.block i (Nat.lt_of_lt_of_le hi HG3.out.size) (by simp; omega)).trans (HG3.out.block i hi hne)⟩
  · have hr0 : (r == 0) = false := by simpa using hr
    by_cases hr1 : r = 1
    · subst hr1
      have HA := Lib.hid (show Own (w2.alloc (.cells #[.int .i64 0, .int .i64 1, .int .i64 2, .int .i64 3, .int .i64 4, .int .i64 5, .int .i64 6] 2)) w.heap.size (.slice (some ⟨w2.heap.size, 0, none⟩) 7 7) [0, 1, 2, 3, 4, 5, 6] from Own.list hsz [0, 1, 2, 3, 4, 5, 6] (by decide))
      have hp := Lib.hid (l01Next_any (w := w2.alloc (.cells #[.int .i64 0, .int .i64 1, .int .i64 2, .int .i64 3, .int .i64 4, .int .i64 5, .int .i64 6] 2)) (HS2.out.step (below_box _)) 8 (by omega) (by omega))
      go_wp2_with (go_at_call 32; (with_reducible refine hp.out.mono ?_))
      rintro e w3 ⟨q, rfl, q0, q1, hs3, hg3⟩
      have HO3 := Lib.hid (HA.out.keptB hbw hg3)
      have HS3 := Lib.hid hs3
      have HG3 := Lib.hid (grownT HG2.out (grownT (grown_alloc _) hg3))
      clear hs3 hg3 hp HA
      have q7 : q ≤ 7 := by omega
      go_wp2
      go_ret
      exact ⟨_, _, rfl, HO3.out.cut (by omega), HS3.out, HG3.out⟩
    · have hr2 : (r == 1) = false := by simpa using hr1
      go_wp2
      go_ret
      exact ⟨zs, _, rfl, by have := HO2.out; exact this, HS2.out, HG2.out⟩

end Go.Proofs.YtcecmjnbhppocaaDoor
