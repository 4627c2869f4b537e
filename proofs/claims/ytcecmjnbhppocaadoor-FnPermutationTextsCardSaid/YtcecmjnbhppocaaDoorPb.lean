/- Contracts: the permutation with a rank. -/
import Derived.Test.YtcecmjnbhppocaaDoorPa
import Derived.Deep.RegionLaw
import Derived.Lib.SliceRun
namespace Go.Proofs.YtcecmjnbhppocaaDoor
open Go.RowKit
set_option linter.unusedVariables false
set_option linter.unusedSimpArgs false

/-- vs laid over xs from place k on. -/
def lay (xs : List Value) : Nat → List Value → List Value
  | _, [] => xs
  | k, v :: vs => lay (xs.set k v) (k + 1) vs
theorem lay_len : ∀ (vs : List Value) (xs : List Value) (k : Nat), (lay xs k vs).length = xs.length
  | [], _, _ => rfl
  | v :: vs, xs, k => by rw [lay, lay_len vs]; simp
theorem lay_get : ∀ (vs : List Value) (xs : List Value) (k : Nat), k + vs.length ≤ xs.length → ∀ j, (lay xs k vs)[j]? = if k ≤ j ∧ j < k + vs.length then vs[j - k]? else xs[j]?
  | [], xs, k, _, j => by
    rw [lay, if_neg (by simp only [List.length_nil]; omega)]
  | v :: vs, xs, k, h, j => by
    simp only [List.length_cons] at h
    rw [lay, lay_get vs _ _ (by simp; omega) j, List.getElem?_set]
    simp only [List.length_cons]
    by_cases h1 : k = j
    · subst h1
      rw [if_neg (by omega), if_pos rfl, if_pos (by omega), if_pos (by omega), Nat.sub_self]
      rfl
    · rw [if_neg h1]
      by_cases h2 : k + 1 ≤ j ∧ j < k + 1 + vs.length
      · rw [if_pos h2, if_pos (by omega), show j - k = (j - (k + 1)) + 1 by omega, List.getElem?_cons_succ]
      · rw [if_neg h2, if_neg (by omega)]
theorem OwnV.lays {t : TypeId} {lo g n cap : Nat} : ∀ (vs : List Value) {w : World} {xs : List Value} (k : Nat) (h : OwnV t w lo (.slice (some ⟨g, 0, none⟩) n cap) xs),
    OwnV t (w.setCells g k vs) lo (.slice (some ⟨g, 0, none⟩) n cap) (lay xs k vs) ∧ w.grownBy (w.setCells g k vs) (some g)
  | [], w, xs, k, h => ⟨h, World.grownBy.refl _ _⟩
  | v :: vs, w, xs, k, h => by
    obtain ⟨h1, h2⟩ := h.stored k v
    obtain ⟨h3, h4⟩ := OwnV.lays vs (k + 1) h1
    exact ⟨h3, grown_trans h2 h4⟩
/-- The first m elements. -/
theorem OwnV.cut {t : TypeId} {w : World} {lo g n cap m : Nat} {xs : List Value} (h : OwnV t w lo (.slice (some ⟨g, 0, none⟩) n cap) xs) (hm : m ≤ n) : OwnV t w lo (.slice (some ⟨g, 0, none⟩) m cap) (xs.take m) := by
  have hl := h.len
  subst hl
  have hlen : (xs.take m).length = m := by rw [List.length_take]; omega
  refine ⟨by have := h.1; omega, by rw [hlen]; simp [hlen], ?_⟩
  rcases h.2.2 with ⟨h', _⟩ | ⟨g', cap', cur, h', hg, hh, hc, hmx, hs, ht⟩
  · simp at h'
  · injection h' with e1 e2 e3
    injection e1 with e1
    injection e1 with e4 _ _
    subst e3 e4
    refine .inr ⟨g, cap, cur, by rw [hlen], hg, hh, by omega, hmx, hs, ?_⟩
    rw [hlen]
    conv => rhs; rw [← ht]
    rw [List.take_take]
    congr 1
    omega
theorem own_of_V {w : World} {lo : Nat} {v : Value} {zs : List Int} (h : OwnV 2 w lo v (zs.map (.int .i64))) : Own w lo v zs := ⟨by simpa using h.1, by simpa using h.2⟩
theorem own_to_V {w : World} {lo : Nat} {v : Value} {zs : List Int} (h : Own w lo v zs) : OwnV 2 w lo v (zs.map (.int .i64)) := ⟨by simpa using h.1, by simpa using h.2⟩
def ints (zs : List Int) : List Value := zs.map (.int .i64)
theorem del_lay {zs : List Int} {i : Nat} (hi : i < zs.length) (z : Value) :
    (lay (lay (ints zs) i (ints (zs.drop (i + 1)))) (zs.length - 1) [z]).take (zs.length - 1) = ints (zs.eraseIdx i) := by
  have l0 : (ints zs).length = zs.length := by simp [ints]
  have l1 : (ints (zs.drop (i + 1))).length = zs.length - (i + 1) := by simp [ints]
  apply List.ext_getElem?
  intro j
  rw [List.getElem?_take]
  by_cases hj : j < zs.length - 1
  · rw [if_pos hj, lay_get _ _ _ (by rw [lay_len, l0]; simp; omega), if_neg (by simp; omega), lay_get _ _ _ (by rw [l0, l1]; omega), l1]
    simp only [ints, List.getElem?_map, List.getElem?_eraseIdx]
    by_cases h2 : j < i
    · rw [if_neg (by omega), if_pos h2]
    · rw [if_pos (by omega), if_neg h2, List.getElem?_drop, show i + 1 + (j - i) = j + 1 by omega]
  · rw [if_neg hj]
    simp only [ints, List.getElem?_map, List.getElem?_eraseIdx]
    rw [if_neg (by omega), List.getElem?_eq_none (by omega)]
    rfl

theorem zero64 : ∀ w, (zeroValue 2).run Tryd.prog w = .ok (.int .i64 0) w := fun w => by kernel_rfl
def RetDel (zs : List Int) (i lo : Nat) (v : Value) (w : World) (e : Ending) (w' : World) : Prop := ∃ v', e = .returned v' ∧ Own w' lo v' (zs.eraseIdx i) ∧ w.grownBy w' v.ownBlock ∧ v'.ownBlock = v.ownBlock

set_option maxHeartbeats 4000000 in
theorem Delete_aux {lo i j : Nat} {v : Value} {zs : List Int} {w : World} (h : Own w lo v zs) (hi : i < zs.length) (hij : Hid (j = i + 1)) :
    Calls Tryd.prog 47 #[v, .int .i64 (i : Int), .int .i64 (j : Int)] w (RetDel zs i lo v w) := by
  obtain ⟨g, cap, rfl, hg1, hg2, hcap, hmax⟩ := h.head (by omega)
  have hL := h.1
  have hcap2 : cap ≤ 9223372036854775807 := by unfold maxLen at hmax; omega
  have HO := Lib.hid (own_to_V h)
  clear h
  obtain ⟨i0, hi0, hz0, hz1, hz2⟩ := info_parts info64
  have l0 : (ints zs).length = zs.length := by simp [ints]
  have l1 : (ints (zs.drop (i + 1))).length = zs.length - (i + 1) := by simp [ints]
  -- what is moved, and where it is read
  have s1 := Lib.hid (show (ints (zs.drop (i + 1))).length = (zs.length - (i + 1)) * 1 by omega)
  have s2 := Lib.hid (show ∀ u ∈ ints (zs.drop (i + 1)), u.oneCell' = true by intro u hu; obtain ⟨x, _, rfl⟩ := List.mem_map.1 hu; rfl)
  have s3 := Lib.hid (show ∀ t, t < (ints (zs.drop (i + 1))).length → (w.drew.cell? ⟨g, 0 + i * 1 + t, none⟩).isSome = true ∧ w.drew.frozen? ⟨g, 0 + i * 1 + t, none⟩ = false by
    intro t ht
    rw [l1] at ht
    have h1 : w.cell? ⟨g, i + t, none⟩ = some (.int .i64 (el zs (i + t))) := HO.out.cellAt (ints_at (by omega))
    rw [show 0 + i * 1 + t = i + t by omega]
    exact ⟨by show (w.cell? _).isSome = true; rw [h1]; rfl, HO.out.frozenAt _⟩)
  -- the world behind the append
  obtain ⟨W1, hW1⟩ : ∃ W1, W1 = w.drew.setCells g (0 + i * 1) (ints (zs.drop (i + 1))) := ⟨_, rfl⟩
  have hO1 : OwnV 2 w.drew lo (.slice (some ⟨g, 0, none⟩) zs.length cap) (ints zs) := ⟨by rw [l0]; exact hL, World.ownsRow.drew HO.out.2⟩
  obtain ⟨hO2, hg2⟩ := OwnV.lays (ints (zs.drop (i + 1))) (0 + i * 1) hO1
  rw [← hW1] at hO2 hg2
  rw [show 0 + i * 1 = i by omega] at hO2
  obtain ⟨hO3, hg3⟩ := OwnV.lays [Value.int .i64 0] (zs.length - 1) hO2
  have hcl : ∀ ty, (Builtin.clear_ #[22] ty #[.slice (some ⟨g, zs.length - 1, none⟩) 1 (cap - (zs.length - 1))]).run Tryd.prog W1 = .ok (.tuple #[]) (W1.setCells g (zs.length - 1) [Value.int .i64 0]) :=
    fun ty => Lib.run_clear_slice W1 _ _ ty _ Tryd.underlying22 zero64 rfl rfl g (zs.length - 1) 1 _ (by omega) (fun t ht => by
      obtain rfl : t = 0 := by omega
      obtain ⟨x, hx⟩ : ∃ x, (lay (ints zs) i (ints (zs.drop (i + 1))))[zs.length - 1]? = some x := ⟨_, List.getElem?_eq_getElem (by rw [lay_len, l0]; omega)⟩
      rw [Nat.add_zero, hO2.cellAt hx]; rfl) (fun t ht => hO2.frozenAt _)
  have R := Lib.hid (show Own (W1.setCells g (zs.length - 1) [Value.int .i64 0]) lo (.slice (some ⟨g, 0, none⟩) (zs.length - 1) cap) (zs.eraseIdx i) by
    have := hO3.cut (m := zs.length - 1) (by omega)
    rw [del_lay hi] at this
    exact own_of_V this)
  have G := Lib.hid (show w.grownBy (W1.setCells g (zs.length - 1) [Value.int .i64 0]) (some g) from grown_trans (show w.grownBy W1 (some g) from ⟨hg2.os, hg2.tape, hg2.output, hg2.size, hg2.block⟩) hg3)
  have HW := Lib.hid hW1
  have HCL := Lib.hid hcl
  clear hO1 hO2 hg2 hO3 hg3 hW1 l0 l1 hcl hz0 hz2
  have hj := hij.out
  have hlt : i < j := by omega
  have hjn : j ≤ zs.length := by omega
  have hne : ((i : Int) == (j : Int)) = false := by simp; omega
  have hic : i ≤ cap := by omega
  have hjc : j ≤ cap := by omega
  have e1 : zs.length - j + i = zs.length - 1 := by omega
  have hHJ := Lib.hid (show i + (zs.length - j) = zs.length - 1 by omega)
  have hHK := Lib.hid (show zs.length - (zs.length - 1) = 1 by omega)
  rw [← hj] at s1 s2 s3 HW
  have hcl2 : ∀ ty, (Builtin.clear_ #[22] ty #[.slice (some ⟨g, i + (zs.length - j), none⟩) (zs.length - (i + (zs.length - j))) (cap - (i + (zs.length - j)))]).run Tryd.prog W1 = .ok (.tuple #[]) (W1.setCells g (zs.length - 1) [Value.int .i64 0]) := by
    rw [hHJ.out, hHK.out]; exact HCL.out
  have HCL2 := Lib.hid hcl2
  clear hcl2 HCL
  have s1' := s1.out
  by_cases hc : cap = j
  · have hsrc := Lib.hid (show ∀ t u, (ints (zs.drop j))[t]? = some u → w.drew.cell? ((⟨g, 0, none⟩ : Addr).add t) = some u by
      intro t u hu
      rw [List.getElem?_eq_none (by rw [s1']; omega)] at hu; cases hu)
    obtain rfl : cap = zs.length := by omega
    obtain rfl : zs.length = j := by omega
    have s0 := Lib.hid (show (ints (zs.drop zs.length)).length = 0 * 1 by rw [s1']; omega)
    have HCL3 := Lib.hid (show ∀ ty, (Builtin.clear_ #[22] ty #[.slice (some ⟨g, i, none⟩) (zs.length - i) (zs.length - i)]).run Tryd.prog W1 = .ok (.tuple #[]) (W1.setCells g (zs.length - 1) [Value.int .i64 0]) by
      have := HCL2.out
      rw [Nat.sub_self, Nat.add_zero] at this
      exact this)
    have HI1 := Lib.hid (show i = zs.length - 1 by omega)
    have hni : ¬ zs.length = i := by omega
    clear s1' hj e1 hc HCL2
    go_enter Tryd.func47, Tryd.ntmps47
    go_wp2_with fail
    go_region_law (refine step_append_room rfl (.tmp 22) (.tmp 25) 22 rfl 2 i0 1 Tryd.underlying22 hi0 hz1 g 0 i zs.length (by simp [Act.eval, Act.put]) ⟨g, 0, none⟩ 0 0 (ints (zs.drop zs.length)) (by simp [Act.eval, Act.put]) s0.out hsrc.out s2.out (by omega) s3.out ?_; rw [← HW.out])
    have hcl2 := HCL3.out
    go_wp2
    go_ret
    exact ⟨_, rfl, by
      have e : Value.slice (some ⟨g, 0, none⟩) i zs.length = .slice (some ⟨g, 0, none⟩) (zs.length - 1) zs.length := by rw [← HI1.out]
      rw [e]; exact R.out, G.out, rfl⟩
  · have hsrc := Lib.hid (show ∀ t u, (ints (zs.drop j))[t]? = some u → w.drew.cell? ((⟨g, j, none⟩ : Addr).add t) = some u by
      intro t u hu
      have ht : t < (ints (zs.drop j)).length := by
        apply Decidable.byContradiction; intro hh
        rw [List.getElem?_eq_none (by omega)] at hu; cases hu
      have h1 : w.cell? ⟨g, j + t, none⟩ = some (.int .i64 (el zs (j + t))) := HO.out.cellAt (ints_at (by omega))
      simp only [ints, List.getElem?_map, List.getElem?_drop, el_get (show j + t < zs.length by omega), Option.map_some] at hu
      rw [Addr.add_lit]
      exact h1.trans hu)
    clear s1' hj e1
    go_enter Tryd.func47, Tryd.ntmps47
    go_wp2_with fail
    go_region_law (refine step_append_room rfl (.tmp 22) (.tmp 25) 22 rfl 2 i0 1 Tryd.underlying22 hi0 hz1 g 0 i cap (by simp [Act.eval, Act.put]) ⟨g, j, none⟩ (zs.length - j) (cap - j) (ints (zs.drop j)) (by simp [Act.eval, Act.put]) s1.out hsrc.out s2.out (by omega) s3.out ?_; rw [← HW.out])
    have hcl2 := HCL2.out
    go_wp2
    go_ret
    exact ⟨_, rfl, by rw [hHJ.out]; exact R.out, G.out, rfl⟩

theorem Delete_any {lo i : Nat} {v : Value} {zs : List Int} {w : World} (h : Own w lo v zs) (hi : i < zs.length) :
    Calls Tryd.prog 47 #[v, .int .i64 (i : Int), .int .i64 ((i : Int) + 1)] w (RetDel zs i lo v w) :=
  Delete_aux (j := i + 1) h hi (Lib.hid rfl)

theorem Delete_int {lo : Nat} {I : Int} {v : Value} {zs : List Int} {w : World} (h : Own w lo v zs) (h0 : 0 ≤ I) (hi : I < zs.length) :
    Calls Tryd.prog 47 #[v, .int .i64 I, .int .i64 (I + 1)] w (RetDel zs I.toNat lo v w) := by
  obtain ⟨i, rfl⟩ : ∃ i : Nat, I = i := ⟨I.toNat, by omega⟩
  exact Delete_any h (by omega)
def factZ (n : Int) : Int := factN n.toNat
theorem factZ_bd {n : Int} (h : n ≤ 6) : 1 ≤ factZ n ∧ factZ n ≤ 720 := factN_bd (by omega)
theorem factorial_int (n : Int) (w : World) (h0 : 0 ≤ n) (hn : n ≤ 6) :
    Calls Tryd.prog 27 #[.int .i64 n] w fun e w' => e = .returned (.int .i64 (factZ n)) ∧ w = w' := by
  obtain ⟨i, rfl⟩ : ∃ i : Nat, n = i := ⟨n.toNat, by omega⟩
  exact factorial_any i w (by omega)
theorem l21Factorial_int (n : Int) (w : World) (h0 : 0 ≤ n) (hn : n ≤ 6) :
    Calls Tryd.prog 50 #[.int .i64 n] w fun e w' => e = .returned (.int .i64 (factZ n)) ∧ w = w' := by
  obtain ⟨i, rfl⟩ : ∃ i : Nat, n = i := ⟨n.toNat, by omega⟩
  exact l21Factorial_any i w (by omega)

/-- The permutation with a rank: k points are left. -/
def withN : Nat → Int → List Int → List Int → List Int
  | 0, _, _, out => out
  | k + 1, r, left, out => withN k (r % factZ k) (left.eraseIdx (r / factZ k).toNat) (out ++ [el left (r / factZ k).toNat])
def withL (n : Nat) (r : Int) : List Int := withN n r (seqL 0 n) []
structure WithInv (n : Nat) (r : Int) (k : Nat) (R : Int) (L O : List Int) : Prop where
  kn : k ≤ n
  len : L.length = k
  out : O.length + k = n
  r0 : 0 ≤ R
  r1 : R < factZ k
  goal : withN k R L O = withL n r
theorem withInv_start {n : Nat} {r : Int} (h0 : 0 ≤ r) (h1 : r < factZ n) : WithInv n r n r (seqL 0 n) [] :=
  ⟨Nat.le_refl _, seq_len _ _, by simp, h0, h1, rfl⟩
theorem withInv_at {n k : Nat} {r R : Int} {L O : List Int} (h : WithInv n r k R L O) (hk : 0 < k) (hn : n ≤ 6) : 0 ≤ R / factZ ((k : Int) - 1) ∧ R / factZ ((k : Int) - 1) < k := by
  have hf := factZ_bd (show (k : Int) - 1 ≤ 6 by have := h.kn; omega)
  have hr := h.r1
  obtain ⟨j, rfl⟩ : ∃ j, k = j + 1 := ⟨k - 1, by omega⟩
  have e : ((j + 1 : Nat) : Int) - 1 = j := by omega
  rw [e] at hf ⊢
  refine ⟨Int.ediv_nonneg h.r0 (by omega), Int.ediv_lt_of_lt_mul (by omega) ?_⟩
  have : factZ ((j + 1 : Nat) : Int) = ((j : Int) + 1) * factZ j := by simp [factZ, factN]
  rw [this] at hr
  exact hr
theorem withInv_step {n k : Nat} {r R : Int} {L O : List Int} (h : WithInv n r k R L O) (hk : 0 < k) (hn : n ≤ 6) :
    WithInv n r (k - 1) (R % factZ ((k : Int) - 1)) (L.eraseIdx (R / factZ ((k : Int) - 1)).toNat) (O ++ [el L (R / factZ ((k : Int) - 1)).toNat]) := by
  have hf := factZ_bd (show (k : Int) - 1 ≤ 6 by have := h.kn; omega)
  have ha := withInv_at h hk hn
  have hl := h.len
  have ho := h.out
  have hkn := h.kn
  refine ⟨by omega, ?_, by simp; omega, Int.emod_nonneg _ (by omega), ?_, ?_⟩
  · rw [List.length_eraseIdx, if_pos (by omega)]; omega
  · rw [show ((k - 1 : Nat) : Int) = (k : Int) - 1 by omega]
    exact Int.emod_lt_of_pos _ (by omega)
  · rw [← h.goal]
    obtain ⟨j, rfl⟩ : ∃ j, k = j + 1 := ⟨k - 1, by omega⟩
    have e : ((j + 1 : Nat) : Int) - 1 = j := by omega
    rw [e, Nat.add_sub_cancel, withN]

set_option maxHeartbeats 4000000 in
theorem withRank_any (n : Nat) (r : Int) (w : World) (hn : n ≤ 6) (h0 : 0 ≤ r) (h1 : r < factZ n) :
    Calls Tryd.prog 28 #[.int .i64 (n : Int), .int .i64 r] w (RetInts (withL n r) w) := by
  have HS := Lib.hid (withInv_start h0 h1)
  clear h1
  go_enter Tryd.func28, Tryd.ntmps28
  go_wp2_with (go_at_call 46; with_reducible refine (identity_any n _ (by omega)).mono ?_)
  rintro _ w1 ⟨v1, rfl, o1, hb1⟩
  have HO1 := Lib.hid o1
  have HB1 := Lib.hid hb1
  clear o1 hb1
  go_wp2
  go_loopw [1, 5, 6, 7] (fun rr l o c wr => ∃ (k : Nat) (R : Int) (L O : List Int), rr = .int .i64 R ∧ c = .int .i64 (k : Int) ∧ Hid (WithInv n r k R L O) ∧ Own wr w.heap.size l L ∧ Hid (∀ b, l.ownBlock = some b → b < w1.heap.size) ∧ Own wr w1.heap.size o O ∧ Below w.heap.size w wr ∧ w1.heap.size ≤ wr.heap.size) (fun _ _ _ c _ => (intOf c).toNat)
  case atStart => exact ⟨n, r, _, _, rfl, rfl, HS, HO1.out, Lib.hid (fun b hb => (HO1.out.lt b hb).2), Own.nil, HB1.out, Nat.le_refl _⟩
  case round =>
    clear HO1 HS
    obtain ⟨k, R, L, O, rfl, rfl, HI, hl, HLT, ho, hbel, hsz⟩ := hrel
    have HL := Lib.hid hl
    have HO := Lib.hid ho
    have HB := Lib.hid hbel
    clear hl ho hbel
    by_cases hk : 0 < k
    · obtain ⟨a0, a1⟩ := withInv_at HI.out hk hn
      obtain ⟨f0, f1⟩ := factZ_bd (show (k : Int) - 1 ≤ 6 by have := HI.out.kn; omega)
      have hR0 := HI.out.r0
      have hkn := HI.out.kn
      have hR1 : R ≤ 720 := by have := HI.out.r1; have := (factZ_bd (show (k : Int) ≤ 6 by omega)).2; omega
      have HST := Lib.hid (withInv_step HI.out hk hn)
      obtain ⟨g, cap, rfl, hg1, hg2, hcap, hmax⟩ := HL.out.head (by have := HI.out.len; omega)
      have c1 : wr.cell? ⟨g, (R / factZ ((k : Int) - 1)).toNat, none⟩ = some (.int .i64 (el L (R / factZ ((k : Int) - 1)).toNat)) := HL.out.cellAt (by have := HI.out.len; omega)
      have hLk := HI.out.len
      have hOl : O.length + 1 ≤ 1099511627776 := by have := HI.out.out; omega
      have hcap2 : cap ≤ 9223372036854775807 := by unfold maxLen at hmax; omega
      have HLK := Lib.hid hLk
      have hai : R / factZ ((k : Int) - 1) < L.length := by omega
      clear hLk
      go_wp2_with (first | (go_at_call 27; ((with_reducible refine (factorial_int _ _ (by omega) (by omega)).mono ?_); rintro e w' ⟨rfl, rfl⟩)) | (at_builtin; refine append_oneG _ rfl _ _ rfl rfl HO.out hOl hsz rfl rfl ?_))
      intro v2 w2 o2 g2 b2
      have HL2 := Lib.hid (HL.out.kept g2 (.inr (fun e => by have := HLT.out g rfl; have := (HO.out.lt g e.symm).1; omega)))
      have HO2 := Lib.hid o2
      have HB2 := Lib.hid (HB.out.trans (b2.mono HB1.out.size))
      have hsz2 : w1.heap.size ≤ w2.heap.size := Nat.le_trans hsz b2.size
      clear o2 g2 b2 c1
      go_wp2_with (go_at_call 47; with_reducible refine (Delete_int HL2.out a0 hai).mono ?_)
      rintro _ w3 ⟨v3, rfl, o3, g3, e3⟩
      have HL3 := Lib.hid o3
      have HO3 := Lib.hid (HO2.out.kept g3 (by
        cases hb : v2.ownBlock with
        | none => exact .inl rfl
        | some b =>
          right
          intro e
          have := (HO2.out.lt b hb).1
          have := HLT.out b e.symm
          omega))
      have HLT3 := Lib.hid (show ∀ b, v3.ownBlock = some b → b < w1.heap.size by rw [e3]; exact HLT.out)
      have HB3 := Lib.hid (HB2.out.grown g3 HB2.out.size (fun b hb => (HL2.out.lt b hb).1))
      have hsz3 : w1.heap.size ≤ w3.heap.size := Nat.le_trans hsz2 g3.size
      clear o3 g3 e3
      go_wp2
      go_roundw
      case rel => exact ⟨k - 1, _, _, _, rfl, vint (by omega), HST, HL3.out, HLT3, HO3.out, HB3.out, hsz3⟩
      case measure => simp [intOf]; omega
    · obtain rfl : k = 0 := by omega
      have HQ := Lib.hid (show O = withL n r from HI.out.goal)
      go_wp2
      go_ret
      exact ⟨_, rfl, by have := HO.out.mono HB1.out.size; rw [HQ.out] at this; exact this, HB.out⟩

end Go.Proofs.YtcecmjnbhppocaaDoor
