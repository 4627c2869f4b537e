/- Contract: a text is damaged. -/
import Derived.Test.YtcecmjnbhppocaaDoorSh
import Derived.Test.YtcecmjnbhppocaaDoorNe
import Derived.Deep.RegionWith
namespace Go.Proofs.YtcecmjnbhppocaaDoor
open Go.RowKit
set_option linter.unusedVariables false
set_option linter.unusedSimpArgs false
set_option maxRecDepth 100000

theorem bs_cut (l : List UInt8) (k : Nat) : (bs l).extract 0 k = bs (l.take k) := by rw [bs_ext]; simp
theorem bs_rest (l : List UInt8) (k : Nat) : (bs l).extract k l.length = bs (l.drop k) := by rw [bs_ext, List.take_of_length_le (by simp)]
theorem src_drew {w : World} {lo b : Nat} {cs : List Int} (h : Src w lo b cs) : Src w.drew lo b cs := h.step (Below.refl _ _).drew
def eight : Array Value := #[.string ⟨#[48]⟩, .string ⟨#[35]⟩, .string ⟨#[46]⟩, .string ⟨#[47]⟩, .string ⟨#[32]⟩, .string ⟨#[97]⟩, .string ⟨#[45]⟩, .string ⟨#[10]⟩]
theorem eight_at {q : Int} (h0 : 0 ≤ q) (h1 : q = 0 ∨ q < 8) : ∃ c : UInt8, ∀ (W : World), (W.alloc (.cells eight 9)).cell? ⟨W.heap.size, q.toNat, none⟩ = some (.string (bs [c])) := by
  have h : q = 0 ∨ q = 1 ∨ q = 2 ∨ q = 3 ∨ q = 4 ∨ q = 5 ∨ q = 6 ∨ q = 7 := by omega
  rcases h with rfl | rfl | rfl | rfl | rfl | rfl | rfl | rfl
  · exact ⟨48, fun W => by simp [eight, bs]⟩
  · exact ⟨35, fun W => by simp [eight, bs]⟩
  · exact ⟨46, fun W => by simp [eight, bs]⟩
  · exact ⟨47, fun W => by simp [eight, bs]⟩
  · exact ⟨32, fun W => by simp [eight, bs]⟩
  · exact ⟨97, fun W => by simp [eight, bs]⟩
  · exact ⟨45, fun W => by simp [eight, bs]⟩
  · exact ⟨10, fun W => by simp [eight, bs]⟩
theorem lt8 {q : Int} (h1 : q = 0 ∨ q < 8) : q < 8 := by omega
theorem eight_kept {w w3 : World} {b : Nat} {q : Int} {x : Value} (hb : b < w.heap.size) (hg : (w.alloc (.cells eight 9)).drew.grownBy w3 (some b)) (h : ∀ (W : World), (W.alloc (.cells eight 9)).cell? ⟨W.heap.size, q.toNat, none⟩ = some x) :
    w3.cell? ⟨w.heap.size, q.toNat, none⟩ = some x := by
  rw [← h w]
  exact World.cell?_of_block (w := w.alloc (.cells eight 9)) (hg.block w.heap.size (by simp) (by simp; omega))
theorem grown_drew (w : World) (r : Option Nat) : w.grownBy w.drew r := ⟨rfl, rfl, rfl, Nat.le_refl _, fun _ _ _ => rfl⟩
theorem dam_g1 {w w2 w3 : World} {r : Option Nat} {o : Obj} (h : w.grownBy w2 r) (k : w2.drew.grownBy w3 r) : w.grownBy (w3.alloc o) r := grownT h (grownT (grown_drew _ _) (grownT k (grown_alloc _)))
theorem dam_g2 {w w2 w3 : World} {r : Option Nat} {o : Obj} (h : w.grownBy w2 r) (k : (w2.alloc o).drew.grownBy w3 r) : w.grownBy w3 r := grownT h (grownT (grown_alloc _) (grownT (grown_drew _ _) k))
theorem dam_g3 {w w2 w3 : World} {r : Option Nat} {o : Obj} (h : w.grownBy w2 r) (k : w2.drew.grownBy w3 r) : w.grownBy (w3.alloc o).drew r := grownT (dam_g1 h k) (grown_drew _ _)
set_option maxHeartbeats 4000000 in
theorem l01Damage_any {lo b : Nat} {cs : List Int} {l : List UInt8} {w : World} (h : Src w lo b cs) (hl : l.length ≤ 1000) :
    Calls Tryd.prog 33 #[.pointer (some ⟨b, 0, none⟩), .string (bs l)] w fun e w' => ∃ l', e = .returned (.string (bs l')) ∧ l'.length ≤ 1001 ∧ Src w' lo b cs ∧ w.grownBy w' (some b) := by
  have HS := Lib.hid h
  clear h
  have BSZ : (bs l).size = l.length := bs_size l
  have BCT := bs_cut l
  have BRS := bs_rest l
  have BAD := bs_add
  have BSA := bs_size
  go_enter Tryd.func33, Tryd.ntmps33
  go_wp2_with (go_at_call 32; with_reducible refine (l01Next_any HS.out ((l.length : Int) + 1) (by omega) (by omega)).mono ?_)
  rintro _ w1 ⟨k, rfl, k0, k1, hs1, hg1⟩
  have HS1 := Lib.hid hs1
  have HG1 := Lib.hid hg1
  clear hs1 hg1 HS
  have hk : k ≤ l.length := by omega
  clear k1
  obtain ⟨k, rfl⟩ : ∃ j : Nat, k = j := ⟨k.toNat, by omega⟩
  have hkn : k ≤ l.length := by omega
  go_wp2_with (go_at_call 32; with_reducible refine (l01Next_any HS1.out 8 (by omega) (by omega)).mono ?_)
  rintro _ w2 ⟨r, rfl, r0, r1, hs2, hg2⟩
  have HS2 := Lib.hid hs2
  have HG2 := Lib.hid (grownT HG1.out hg2)
  clear hs2 hg2 HS1 HG1
  by_cases hr0 : r = 0
  · subst hr0
    go_wp2
    go_ret
    exact ⟨_, rfl, by rw [List.length_take]; omega, HS2.out, HG2.out⟩
  · have hb0 : (r == 0) = false := by simpa using hr0
    by_cases hr1 : r = 1
    · subst hr1
      have hbw := HS2.out.lt
      have hn1 := Lib.hid (l01Next_any (src_drew HS2.out) 8 (by omega) (by omega))
      have hn2 := Lib.hid (l01Next_any (src_drew (HS2.out.step (below_box (.cells eight 9)))) 8 (by omega) (by omega))
      unfold eight at hn2
      go_wp2
      go_region_with (go_at_call 32; first | ((with_reducible refine hn1.out.mono ?_); rintro _ w3 ⟨q, rfl, q0, q1, hs3, hg3⟩; obtain ⟨c, hc⟩ := eight_at q0 q1; have q8 := lt8 q1; have ce := hc w3; unfold eight at ce; have HH := Lib.hid hs3; have HI := Lib.hid hg3; clear hs3 hg3 hc q1) | ((with_reducible refine hn2.out.mono ?_); rintro _ w3 ⟨q, rfl, q0, q1, hs3, hg3⟩; obtain ⟨c, hc⟩ := eight_at q0 q1; have q8 := lt8 q1; have ce := eight_kept hbw hg3 hc; have HH := Lib.hid hs3; have HI := Lib.hid hg3; clear hs3 hg3 hc q1))
      all_goals go_wp2
      all_goals go_ret
      all_goals first
        | exact ⟨_, rfl, by simp; omega, HH.out, dam_g2 HG2.out HI.out⟩
        | exact ⟨_, rfl, by simp; omega, HH.out.step (below_box _), dam_g1 HG2.out HI.out⟩
        | exact ⟨_, rfl, by simp; omega, src_drew (HH.out.step (below_box _)), dam_g3 HG2.out HI.out⟩
    · have hb1 : (r == 1) = false := by simpa using hr1
      by_cases hr2 : r = 2
      · subst hr2
        by_cases hlt : k < l.length
        · have hlti : (k : Int) < (l.length : Int) := by omega
          have hk1 : (k : Int) + 1 ≤ (l.length : Int) := by omega
          have hkt : ((k : Int) + 1).toNat = k + 1 := by omega
          go_wp2
          go_region
          all_goals go_wp2
          all_goals go_ret
          all_goals exact ⟨_, rfl, by simp; omega, src_drew HS2.out, grownT HG2.out (grown_drew _ _)⟩
        · have hlti : ¬ (k : Int) < (l.length : Int) := by omega
          go_wp2
          go_ret
          exact ⟨_, rfl, by omega, HS2.out, HG2.out⟩
      · have hb2 : (r == 2) = false := by simpa using hr2
        go_wp2
        go_ret
        exact ⟨_, rfl, by omega, HS2.out, HG2.out⟩

end Go.Proofs.YtcecmjnbhppocaaDoor
