/- Contracts: the draws' source of numbers. -/
import Derived.Test.YtcecmjnbhppocaaDoorS
import Derived.BigQuiet
namespace Go.Proofs.YtcecmjnbhppocaaDoor
open Go.RowKit
set_option linter.unusedVariables false
set_option linter.unusedSimpArgs false

/-- The value v is a slice of bytes that reads bs; its block lies below lo. -/
def Bytes (w : World) (lo : Nat) (v : Value) (bs : List Int) : Prop :=
  (∀ i, i < bs.length → 0 ≤ el bs i ∧ el bs i ≤ 255) ∧ bs.length ≤ 1099511627776 ∧ ∃ a cap, v = .slice a bs.length cap ∧ bs.length ≤ cap ∧ cap ≤ maxLen ∧
    (0 < bs.length → ∃ b o, a = some ⟨b, o, none⟩ ∧ b < lo ∧ ∀ i, i < bs.length → w.cell? ⟨b, o + i, none⟩ = some (.int .u8 (el bs i)))
theorem Bytes.kept {w w' : World} {lo : Nat} {v : Value} {bs : List Int} (h : Bytes w lo v bs) (hk : ∀ k, k < lo → w'.heap[k]? = w.heap[k]?) : Bytes w' lo v bs := by
  obtain ⟨h1, h2, a, cap, h3, h4, h5, h6⟩ := h
  refine ⟨h1, h2, a, cap, h3, h4, h5, fun hp => ?_⟩
  obtain ⟨b, o, e, hb, hc⟩ := h6 hp
  refine ⟨b, o, e, hb, fun i hi => ?_⟩
  rw [← hc i hi]
  simp only [World.cell?, hk b hb]
/-- The source at block b: its bytes, its place, its seed. -/
structure St (w : World) (lo b : Nat) (bs : List Int) (v : Value) (a s : Int) : Prop where
  lb : lo ≤ b
  heap : w.heap[b]? = some (.cells #[v, .int .i64 a, .int .i64 s] 61 (0, 0))
  bytes : Bytes w lo v bs
  a0 : 0 ≤ a
  a1 : a ≤ bs.length
  s0 : 0 ≤ s
  s1 : s < 2147483647
def Src (w : World) (lo b : Nat) (bs : List Int) : Prop := ∃ v a s, St w lo b bs v a s
theorem St.lt {w : World} {lo b : Nat} {bs : List Int} {v : Value} {a s : Int} (h : St w lo b bs v a s) : b < w.heap.size := (Array.getElem?_eq_some_iff.1 h.heap).1
theorem St.c0 {w : World} {lo b : Nat} {bs : List Int} {v : Value} {a s : Int} (h : St w lo b bs v a s) : w.cell? ⟨b, 0, none⟩ = some v := by simp [World.cell?, h.heap]
theorem St.c1 {w : World} {lo b : Nat} {bs : List Int} {v : Value} {a s : Int} (h : St w lo b bs v a s) : w.cell? ⟨b, 1, none⟩ = some (.int .i64 a) := by simp [World.cell?, h.heap]
theorem St.c2 {w : World} {lo b : Nat} {bs : List Int} {v : Value} {a s : Int} (h : St w lo b bs v a s) : w.cell? ⟨b, 2, none⟩ = some (.int .i64 s) := by simp [World.cell?, h.heap]
theorem St.fr {w : World} {lo b : Nat} {bs : List Int} {v : Value} {a s : Int} (h : St w lo b bs v a s) (k : Nat) : w.frozen? ⟨b, k, none⟩ = false := by simp [World.frozen?, h.heap]
theorem heap_setCell {w : World} {p : Addr} {x : Value} {k : Nat} (h : k ≠ p.block) : (w.setCell p x).heap[k]? = w.heap[k]? := by
  simp only [World.setCell, Array.getElem?_modify]
  rw [if_neg (fun e => h e.symm)]
theorem heap_setCell_same {w : World} {b k : Nat} {x : Value} {c : Array Value} {t : TypeId} {f : Nat × Nat} (h : w.heap[b]? = some (.cells c t f)) : (w.setCell ⟨b, k, none⟩ x).heap[b]? = some (.cells (c.setIfInBounds k x) t f) := by
  simp [World.setCell, Array.getElem?_modify, h]
theorem St.set2 {w : World} {lo b : Nat} {bs : List Int} {v : Value} {a s s' : Int} (h : St w lo b bs v a s) (h0 : 0 ≤ s') (h1 : s' < 2147483647) : St (w.setCell ⟨b, 2, none⟩ (.int .i64 s')) lo b bs v a s' :=
  ⟨h.lb, by rw [heap_setCell_same h.heap]; rfl, h.bytes.kept fun k hk => heap_setCell (by have := h.lb; simp; omega), h.a0, h.a1, h0, h1⟩
theorem St.set1 {w : World} {lo b : Nat} {bs : List Int} {v : Value} {a s a' : Int} (h : St w lo b bs v a s) (h0 : 0 ≤ a') (h1 : a' ≤ bs.length) : St (w.setCell ⟨b, 1, none⟩ (.int .i64 a')) lo b bs v a' s :=
  ⟨h.lb, by rw [heap_setCell_same h.heap]; rfl, h.bytes.kept fun k hk => heap_setCell (by have := h.lb; simp; omega), h0, h1, h.s0, h.s1⟩
theorem St.drewN {w : World} {lo b : Nat} {bs : List Int} {v : Value} {a s : Int} (h : St w lo b bs v a s) (n : Nat) : St (w.drewN n) lo b bs v a s := ⟨h.lb, h.heap, h.bytes.kept fun _ _ => rfl, h.a0, h.a1, h.s0, h.s1⟩
theorem St.drew {w : World} {lo b : Nat} {bs : List Int} {v : Value} {a s : Int} (h : St w lo b bs v a s) : St w.drew lo b bs v a s := h.drewN 1
theorem grown_drewN {w w' : World} {r : Option Nat} (h : w.grownBy w' r) (n : Nat) : w.grownBy (w'.drewN n) r := ⟨h.os, h.tape, h.output, h.size, h.block⟩
theorem grown_set {w w' : World} {b k : Nat} (h : w.grownBy w' (some b)) (x : Value) : w.grownBy (w'.setCell ⟨b, k, none⟩ x) (some b) :=
  ⟨h.os, h.tape, h.output, by have := h.size; simp [World.setCell]; exact this, fun k hk hne => by rw [heap_setCell (by simp; intro e; exact hne (by rw [e]))]; exact h.block k hk hne⟩
theorem grown_refl {w : World} {r : Option Nat} : w.grownBy w r := ⟨rfl, rfl, rfl, Nat.le_refl _, fun _ _ _ => rfl⟩
theorem Src.kept {w w' : World} {lo b : Nat} {bs : List Int} {r : Option Nat} (h : Src w lo b bs) (hg : w.grownBy w' r) (hr : ∀ k, r = some k → lo ≤ k) (hne : r ≠ some b) : Src w' lo b bs := by
  obtain ⟨v, a, s, h⟩ := h
  have hb := h.lt
  have hlb := h.lb
  exact ⟨v, a, s, hlb, by rw [hg.block b hb (fun e => hne e.symm)]; exact h.heap, h.bytes.kept (fun k hk => hg.block k (by omega) (fun e => by have := hr k e.symm; omega)), h.a0, h.a1, h.s0, h.s1⟩
theorem Src.step {w w' : World} {lo b : Nat} {bs : List Int} (h : Src w lo b bs) (hb : Below w.heap.size w w') : Src w' lo b bs := by
  obtain ⟨v, a, s, h⟩ := h
  have h1 := h.lt
  have h2 := h.lb
  exact ⟨v, a, s, h2, by rw [hb.block b h1]; exact h.heap, h.bytes.kept (fun k hk => hb.block k (by omega)), h.a0, h.a1, h.s0, h.s1⟩

set_option maxHeartbeats 4000000 in
theorem l01Next_any {lo b : Nat} {bs : List Int} {w : World} (h : Src w lo b bs) (n : Int) (hn0 : -9223372036854775808 ≤ n) (hn : n ≤ 9223372036854775807) :
    Calls Tryd.prog 32 #[.pointer (some ⟨b, 0, none⟩), .int .i64 n] w fun e w' => ∃ r : Int, e = .returned (.int .i64 r) ∧ 0 ≤ r ∧ (r = 0 ∨ r < n) ∧ Src w' lo b bs ∧ w.grownBy w' (some b) := by
  by_cases h1 : n ≤ 1
  · have HS := Lib.hid h
    clear h
    go_enter Tryd.func32, Tryd.ntmps32
    go_wp2
    go_ret
    exact ⟨0, rfl, Int.le_refl _, .inl rfl, HS.out, grown_refl⟩
  · obtain ⟨v, a, s, h⟩ := h
    have HS := Lib.hid h
    have c0 := h.c0
    have c1 := h.c1
    have c2 := h.c2
    have fr1 := h.fr 1
    have fr2 := h.fr 2
    have hs0 := h.s0
    have hs1 := h.s1
    have ha0 := h.a0
    have ha1 := h.a1
    have hlb := h.lb
    obtain ⟨hby, hbl, va, cap, rfl, hcap, hmax, hcell⟩ := h.bytes
    have hmax2 : cap ≤ 9223372036854775807 := by unfold maxLen at hmax; omega
    obtain ⟨L, hL⟩ : ∃ L, L = bs.length := ⟨_, rfl⟩
    rw [← hL] at ha1 hbl hcap hby c0
    have HL := Lib.hid hL
    have HC := Lib.hid hcell
    have HBY := Lib.hid hby
    clear hcell hmax h hL hby
    have hm1 : 0 ≤ s * 48271 := by omega
    have hm2 : s * 48271 ≤ 110000000000000 := by omega
    obtain ⟨S, hS⟩ : ∃ S, (s * 48271 + 29) % 2147483647 = S := ⟨_, rfl⟩
    have hS0 : 0 ≤ S := by omega
    have hS1 : S < 2147483647 := by omega
    have HS2 := Lib.hid (HS.out.set2 hS0 hS1)
    by_cases hlt : a < L
    · obtain ⟨hx0, hx1⟩ := HBY.out a.toNat (by omega)
      obtain ⟨g, o, rfl, hg, hc⟩ := HC.out (by have := HL.out; omega)
      have cc : w.cell? ⟨g, o + a.toNat, none⟩ = some (.int .u8 (el bs a.toNat)) := hc _ (by have := HL.out; omega)
      clear hc
      have hgb : ¬ b = g := by omega
      have hgb2 : ¬ g = b := by omega
      by_cases hn2 : n ≤ 256
      · by_cases he : (a + 1) % 2 = 0
        · have heb : ((a + 1) % 2 == 0) = true := by simpa using he
          go_enter Tryd.func32, Tryd.ntmps32
          go_wp2
          go_quiet (fail)
          go_wp2
          go_quiet (fail)
          go_wp2
          go_quiet (fail)
          go_wp2
          go_ret
          have q0 : 0 ≤ (el bs a.toNat) % n := Int.emod_nonneg _ (by omega)
          have q1 : (el bs a.toNat) % n < n := Int.emod_lt_of_pos _ (by omega)
          exact ⟨_, rfl, q0, .inr q1, ⟨_, _, _, ((HS2.out.drewN _).set1 (a' := a + 1) (by omega) (by have := HL.out; omega)).drewN _⟩, grown_drewN (grown_set (grown_drewN (grown_set grown_refl _) _) _) _⟩
        · have heb : ((a + 1) % 2 == 0) = false := by simpa using he
          go_enter Tryd.func32, Tryd.ntmps32
          go_wp2
          go_quiet (fail)
          go_wp2
          go_quiet (fail)
          go_wp2
          go_ret
          have q0 : 0 ≤ (S / 31 + el bs a.toNat) % n := Int.emod_nonneg _ (by omega)
          have q1 : (S / 31 + el bs a.toNat) % n < n := Int.emod_lt_of_pos _ (by omega)
          exact ⟨_, rfl, q0, .inr q1, ⟨_, _, _, (HS2.out.drewN _).set1 (a' := a + 1) (by omega) (by have := HL.out; omega)⟩, grown_set (grown_drewN (grown_set grown_refl _) _) _⟩
      · go_enter Tryd.func32, Tryd.ntmps32
        go_wp2
        go_quiet (fail)
        go_wp2
        go_quiet (fail)
        go_wp2
        go_ret
        have q0 : 0 ≤ (S / 31 + el bs a.toNat) % n := Int.emod_nonneg _ (by omega)
        have q1 : (S / 31 + el bs a.toNat) % n < n := Int.emod_lt_of_pos _ (by omega)
        exact ⟨_, rfl, q0, .inr q1, ⟨_, _, _, (HS2.out.drewN _).set1 (a' := a + 1) (by omega) (by have := HL.out; omega)⟩, grown_set (grown_drewN (grown_set grown_refl _) _) _⟩
    · go_enter Tryd.func32, Tryd.ntmps32
      go_wp2
      go_quiet (fail)
      go_wp2
      go_ret
      have q0 : 0 ≤ S / 31 % n := Int.emod_nonneg _ (by omega)
      have q1 : S / 31 % n < n := Int.emod_lt_of_pos _ (by omega)
      exact ⟨_, rfl, q0, .inr q1, ⟨_, _, _, HS2.out.drewN _⟩, grown_drewN (grown_set grown_refl _) _⟩

theorem Bytes.mono {w : World} {lo lo' : Nat} {v : Value} {bs : List Int} (h : Bytes w lo v bs) (hl : lo ≤ lo') : Bytes w lo' v bs := by
  obtain ⟨h1, h2, a, cap, h3, h4, h5, h6⟩ := h
  refine ⟨h1, h2, a, cap, h3, h4, h5, fun hp => ?_⟩
  obtain ⟨b, o, e, hb, hc⟩ := h6 hp
  exact ⟨b, o, e, by omega, hc⟩
set_option maxHeartbeats 4000000 in
theorem l01From_any {bs : List Int} {v : Value} {w : World} (h : Bytes w w.heap.size v bs) :
    Calls Tryd.prog 30 #[v] w fun e w' => ∃ b, e = .returned (.pointer (some ⟨b, 0, none⟩)) ∧ Src w' w.heap.size b bs ∧ Below w.heap.size w w' := by
  have HBs := Lib.hid h
  obtain ⟨hby, hbl, va, cap, rfl, hcap, hmax, hcell⟩ := h
  have hmax2 : cap ≤ 9223372036854775807 := by unfold maxLen at hmax; omega
  obtain ⟨L, hL⟩ : ∃ L, L = bs.length := ⟨_, rfl⟩
  rw [← hL] at hbl hcap hby HBs
  rw [← hL]
  have HL := Lib.hid hL
  have HBY := Lib.hid hby
  clear hcell hmax hL hby
  go_enter Tryd.func30, Tryd.ntmps30
  go_wp2
  go_loopw [4] (fun c wr => ∃ (k : Nat) (s : Int), c = .int .i64 (k : Int) ∧ k ≤ L ∧ St wr w.heap.size w.heap.size bs (.slice va L cap) 0 s ∧ Below w.heap.size w wr) (fun c _ => L - (intOf c).toNat)
  case atStart =>
    exact ⟨0, 31019, rfl, by omega, ⟨Nat.le_refl _, Array.getElem?_push_size, HBs.out.kept fun k hk => (below_box _).block k hk, by omega, by omega, by omega, by omega⟩, below_box _⟩
  case round =>
    obtain ⟨k, s, rfl, hk, hst, hbel⟩ := hrel
    have HS := Lib.hid hst
    have HB := Lib.hid hbel
    have c2 := hst.c2
    have fr2 := hst.fr 2
    have hs0 := hst.s0
    have hs1 := hst.s1
    clear hst hbel
    by_cases hlt : k < L ∧ k < 64
    · obtain ⟨h1, h2⟩ := hlt
      obtain ⟨_, _, _, _, e, _, _, hc⟩ := HS.out.bytes
      injection e with e1 e2 e3
      subst e1
      clear e2 e3
      obtain ⟨g, o, rfl, hg, hc⟩ := hc (by have := HL.out; omega)
      have cc : wr.cell? ⟨g, o + k, none⟩ = some (.int .u8 (el bs k)) := hc _ (by have := HL.out; omega)
      obtain ⟨hx0, hx1⟩ := HBY.out k h1
      have hgb : ¬ w.heap.size = g := by omega
      clear hc
      go_wp2
      go_region
      all_goals
        go_wp2
        go_roundw
      all_goals first
        | exact ⟨k + 1, _, by go_num, by omega, (HS.out.set2 (by omega) (by omega)).drew, (HB.out.setCell (Nat.le_refl _) _).drew⟩
        | (case measure => simp [intOf]; omega)
        | skip
    · have HST := Lib.hid (show Src wr w.heap.size w.heap.size bs from ⟨_, _, _, HS.out⟩)
      by_cases h1 : k < L
      · have h2 : ¬ k < 64 := fun h => hlt ⟨h1, h⟩
        clear hlt
        go_wp2
        go_ret
        exact ⟨_, rfl, HST.out, HB.out⟩
      · clear hlt
        go_wp2
        go_ret
        exact ⟨_, rfl, HST.out, HB.out⟩

end Go.Proofs.YtcecmjnbhppocaaDoor
