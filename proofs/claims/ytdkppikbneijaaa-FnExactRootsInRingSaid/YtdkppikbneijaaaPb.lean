/- Contracts: the permutation with a rank. -/
import Derived.Test.YtdkppikbneijaaaPa
import Derived.Deep.RegionLaw
import Derived.Lib.SliceRun
namespace Go.Proofs.Ytdkppikbneijaaa
open Go.RowKit
set_option linter.unusedVariables false
set_option linter.unusedSimpArgs false

/-- vs laid over xs from place k on. -/
def lay (xs : List Value) : Nat → List Value → List Value
  | _, [] => xs
  | k, v :: vs => lay (xs.set k v) (k + 1) vs
theorem lay_len : ∀ (vs : List Value) (xs : List Value) (k : Nat), (lay xs k vs).length = xs.length
  | [], _, _ => rfl
  | v :: vs, xs, k => by rw [lay, lay_len vs]; simp
theorem lay_get : ∀ (vs : List Value) (xs : List Value) (k : Nat), k + vs.length ≤ xs.length → ∀ j, (lay xs k vs)[j]? = if k ≤ j ∧ j < k + vs.length then vs[j - k]? else xs[j]?
  | [], xs, k, _, j => by
    rw [lay, if_neg (by simp only [List.length_nil]; omega)]
  | v :: vs, xs, k, h, j => by
    simp only [List.length_cons] at h
    rw [lay, lay_get vs _ _ (by simp; omega) j, List.getElem?_set]
    simp only [List.length_cons]
    by_cases h1 : k = j
    · subst h1
      rw [if_neg (by omega), if_pos rfl, if_pos (by omega), if_pos (by omega), Nat.sub_self]
      rfl
    · rw [if_neg h1]
      by_cases h2 : k + 1 ≤ j ∧ j < k + 1 + vs.length
      · rw [if_pos h2, if_pos (by omega), show j - k = (j - (k + 1)) + 1 by omega, List.getElem?_cons_succ]
      · rw [if_neg h2, if_neg (by omega)]
theorem OwnV.lays {t : TypeId} {lo g n cap : Nat} : ∀ (vs : List Value) {w : World} {xs : List Value} (k : Nat) (h : OwnV t w lo (.slice (some ⟨g, 0, none⟩) n cap) xs),
    OwnV t (w.setCells g k vs) lo (.slice (some ⟨g, 0, none⟩) n cap) (lay xs k vs) ∧ w.grownBy (w.setCells g k vs) (some g)
  | [], w, xs, k, h => ⟨h, World.grownBy.refl _ _⟩
  | v :: vs, w, xs, k, h => by
    obtain ⟨h1, h2⟩ := h.stored k v
    obtain ⟨h3, h4⟩ := OwnV.lays vs (k + 1) h1
    exact ⟨h3, grown_trans h2 h4⟩
/-- The first m elements. -/
theorem OwnV.cut {t : TypeId} {w : World} {lo g n cap m : Nat} {xs : List Value} (h : OwnV t w lo (.slice (some ⟨g, 0, none⟩) n cap) xs) (hm : m ≤ n) : OwnV t w lo (.slice (some ⟨g, 0, none⟩) m cap) (xs.take m) := by
  have hl := h.len
  subst hl
  have hlen : (xs.take m).length = m := by rw [List.length_take]; omega
  refine ⟨by have := h.1; omega, by rw [hlen]; simp [hlen], ?_⟩
  rcases h.2.2 with ⟨h', _⟩ | ⟨g', cap', cur, h', hg, hh, hc, hmx, hs, ht⟩
  · simp at h'
  · injection h' with e1 e2 e3
    injection e1 with e1
    injection e1 with e4 _ _
    subst e3 e4
    refine .inr ⟨g, cap, cur, by rw [hlen], hg, hh, by omega, hmx, hs, ?_⟩
    rw [hlen]
    conv => rhs; rw [← ht]
    rw [List.take_take]
    congr 1
    omega
theorem own_of_V {w : World} {lo : Nat} {v : Value} {zs : List Int} (h : OwnV 2 w lo v (zs.map (.int .i64))) : Own w lo v zs := ⟨by simpa using h.1, by simpa using h.2⟩
theorem own_to_V {w : World} {lo : Nat} {v : Value} {zs : List Int} (h : Own w lo v zs) : OwnV 2 w lo v (zs.map (.int .i64)) := ⟨by simpa using h.1, by simpa using h.2⟩
def ints (zs : List Int) : List Value := zs.map (.int .i64)
theorem del_lay {zs : List Int} {i : Nat} (hi : i < zs.length) (z : Value) :
    (lay (lay (ints zs) i (ints (zs.drop (i + 1)))) (zs.length - 1) [z]).take (zs.length - 1) = ints (zs.eraseIdx i) := by
  have l0 : (ints zs).length = zs.length := by simp [ints]
  have l1 : (ints (zs.drop (i + 1))).length = zs.length - (i + 1) := by simp [ints]
  apply List.ext_getElem?
  intro j
  rw [List.getElem?_take]
  by_cases hj : j < zs.length - 1
  · rw [if_pos hj, lay_get _ _ _ (by rw [lay_len, l0]; simp; omega), if_neg (by simp; omega), lay_get _ _ _ (by rw [l0, l1]; omega), l1]
    simp only [ints, List.getElem?_map, List.getElem?_eraseIdx]
    by_cases h2 : j < i
    · rw [if_neg (by omega), if_pos h2]
    · rw [if_pos (by omega), if_neg h2, List.getElem?_drop, show i + 1 + (j - i) = j + 1 by omega]
  · rw [if_neg hj]
    simp only [ints, List.getElem?_map, List.getElem?_eraseIdx]
    rw [if_neg (by omega), List.getElem?_eq_none (by omega)]
    rfl

theorem zero64 : ∀ w, (zeroValue 2).run Try.prog w = .ok (.int .i64 0) w := fun w => by kernel_rfl
def RetDel (zs : List Int) (i lo : Nat) (v : Value) (w : World) (e : Ending) (w' : World) : Prop := ∃ v', e = .returned v' ∧ Own w' lo v' (zs.eraseIdx i) ∧ w.grownBy w' v.ownBlock ∧ v'.ownBlock = v.ownBlock

def factZ (n : Int) : Int := factN n.toNat
theorem factZ_bd {n : Int} (h : n ≤ 6) : 1 ≤ factZ n ∧ factZ n ≤ 720 := factN_bd (by omega)
/-- The permutation with a rank: k points are left. -/
def withN : Nat → Int → List Int → List Int → List Int
  | 0, _, _, out => out
  | k + 1, r, left, out => withN k (r % factZ k) (left.eraseIdx (r / factZ k).toNat) (out ++ [el left (r / factZ k).toNat])
def withL (n : Nat) (r : Int) : List Int := withN n r (seqL 0 n) []
structure WithInv (n : Nat) (r : Int) (k : Nat) (R : Int) (L O : List Int) : Prop where
  kn : k ≤ n
  len : L.length = k
  out : O.length + k = n
  r0 : 0 ≤ R
  r1 : R < factZ k
  goal : withN k R L O = withL n r
theorem withInv_start {n : Nat} {r : Int} (h0 : 0 ≤ r) (h1 : r < factZ n) : WithInv n r n r (seqL 0 n) [] :=
  ⟨Nat.le_refl _, seq_len _ _, by simp, h0, h1, rfl⟩
theorem withInv_at {n k : Nat} {r R : Int} {L O : List Int} (h : WithInv n r k R L O) (hk : 0 < k) (hn : n ≤ 6) : 0 ≤ R / factZ ((k : Int) - 1) ∧ R / factZ ((k : Int) - 1) < k := by
  have hf := factZ_bd (show (k : Int) - 1 ≤ 6 by have := h.kn; omega)
  have hr := h.r1
  obtain ⟨j, rfl⟩ : ∃ j, k = j + 1 := ⟨k - 1, by omega⟩
  have e : ((j + 1 : Nat) : Int) - 1 = j := by omega
  rw [e] at hf ⊢
  refine ⟨Int.ediv_nonneg h.r0 (by omega), Int.ediv_lt_of_lt_mul (by omega) ?_⟩
  have : factZ ((j + 1 : Nat) : Int) = ((j : Int) + 1) * factZ j := by simp [factZ, factN]
  rw [this] at hr
  exact hr
theorem withInv_step {n k : Nat} {r R : Int} {L O : List Int} (h : WithInv n r k R L O) (hk : 0 < k) (hn : n ≤ 6) :
    WithInv n r (k - 1) (R % factZ ((k : Int) - 1)) (L.eraseIdx (R / factZ ((k : Int) - 1)).toNat) (O ++ [el L (R / factZ ((k : Int) - 1)).toNat]) := by
  have hf := factZ_bd (show (k : Int) - 1 ≤ 6 by have := h.kn; omega)
  have ha := withInv_at h hk hn
  have hl := h.len
  have ho := h.out
  have hkn := h.kn
  refine ⟨by omega, ?_, by simp; omega, Int.emod_nonneg _ (by omega), ?_, ?_⟩
  · rw [List.length_eraseIdx, if_pos (by omega)]; omega
  · rw [show ((k - 1 : Nat) : Int) = (k : Int) - 1 by omega]
    exact Int.emod_lt_of_pos _ (by omega)
  · rw [← h.goal]
    obtain ⟨j, rfl⟩ : ∃ j, k = j + 1 := ⟨k - 1, by omega⟩
    have e : ((j + 1 : Nat) : Int) - 1 = j := by omega
    rw [e, Nat.add_sub_cancel, withN]

end Go.Proofs.Ytdkppikbneijaaa
