/- Reading the text of a permutation gives it back; ranks: plain, by reckoning. -/
import Derived.Test.YtcecmjnbhppocaaDoorSh
import Derived.Test.YtcecmjnbhppocaaDoorPb
namespace Go.Proofs.YtcecmjnbhppocaaDoor
set_option linter.unusedVariables false
set_option linter.unusedSimpArgs false

def permsR (n : Nat) : Nat → List (List Int)
  | 0 => [[]]
  | k + 1 => (permsR n k).flatMap fun p => ((List.range n).filter fun (x : Nat) => !p.contains (x : Int)).map fun (x : Nat) => p ++ [(x : Int)]
theorem permsR_take {zs : List Int} (h : permB zs = true) : ∀ k, k ≤ zs.length → zs.take k ∈ permsR zs.length k
  | 0, _ => by simp [permsR]
  | k + 1, hk => by
    have ih := permsR_take h k (by omega)
    simp only [permB, Bool.and_eq_true, List.all_eq_true] at h
    have h4 := h.1 k (List.mem_range.2 (by omega))
    simp only [permAt, Bool.and_eq_true] at h4
    have hb := inB_iff.1 h4.1
    have hn := h4.2
    rw [List.take_add_one, el_get (by omega)]
    refine List.mem_flatMap.2 ⟨_, ih, List.mem_map.2 ⟨(el zs k).toNat, List.mem_filter.2 ⟨List.mem_range.2 (by omega), ?_⟩, ?_⟩⟩
    · rw [Int.toNat_of_nonneg hb.1]; exact hn
    · rw [Int.toNat_of_nonneg hb.1]; rfl
theorem permsR_all {P : List Int → Bool} (h : [1, 2, 3, 4, 5, 6].all (fun n => (permsR n n).all P) = true) {zs : List Int} (hp : permB zs = true) : P zs = true := by
  obtain ⟨h1, h2, _⟩ := permB_bd hp
  have hm := permsR_take hp zs.length (Nat.le_refl _)
  rw [List.take_length] at hm
  have h3 := List.all_eq_true.1 h zs.length (by
    have : zs.length = 1 ∨ zs.length = 2 ∨ zs.length = 3 ∨ zs.length = 4 ∨ zs.length = 5 ∨ zs.length = 6 := by omega
    rcases this with h | h | h | h | h | h <;> rw [h] <;> decide)
  exact List.all_eq_true.1 h3 zs hm
def chkRead (zs : List Int) : Bool := okP (txtL zs) && ouP (txtL zs) == zs
def chkRank (zs : List Int) : Bool := withL zs.length (rankL zs) == zs && decide (0 ≤ rankL zs) && decide (rankL zs < factZ zs.length)
def chkPerm (n : Nat) : Bool := (List.range (factZ n).toNat).all fun r => permB (withL n r)
theorem chkRank_all : [1, 2, 3, 4, 5, 6].all (fun n => (permsR n n).all chkRank) = true := by decide +kernel
theorem chkPerm_all : [1, 2, 3, 4, 5, 6].all chkPerm = true := by decide +kernel
set_option maxRecDepth 100000 in
theorem chkRead_all : [1, 2, 3, 4, 5, 6].all (fun n => (permsR n n).all chkRead) = true := by decide +kernel
/-- The reading of a text gives the permutation. -/
theorem read_text {zs : List Int} (h : permB zs = true) : rdO (txtL zs) = (zs, 0) := by
  have hc := permsR_all chkRead_all h
  simp only [chkRead, Bool.and_eq_true, beq_iff_eq] at hc
  unfold rdO
  rw [hc.1, hc.2, h]
  simp
theorem rank_with {zs : List Int} (h : permB zs = true) : withL zs.length (rankL zs) = zs ∧ 0 ≤ rankL zs ∧ rankL zs < factZ zs.length := by
  have hc := permsR_all chkRank_all h
  simp only [chkRank, Bool.and_eq_true, beq_iff_eq, decide_eq_true_eq] at hc
  exact ⟨hc.1.1, hc.1.2, hc.2⟩
theorem with_perm {n : Nat} {r : Int} (hn : 1 ≤ n ∧ n ≤ 6) (h0 : 0 ≤ r) (h1 : r < factZ n) : permB (withL n r) = true := by
  have h3 := List.all_eq_true.1 chkPerm_all n (by
    have : n = 1 ∨ n = 2 ∨ n = 3 ∨ n = 4 ∨ n = 5 ∨ n = 6 := by omega
    rcases this with h | h | h | h | h | h <;> rw [h] <;> decide)
  have := List.all_eq_true.1 h3 r.toNat (List.mem_range.2 (by omega))
  rwa [Int.toNat_of_nonneg h0] at this
/-- What the reading gives, told without the reading. -/
theorem rdO_some {zs : List Int} {l : List UInt8} (h : permB zs = true) (hl : txtL zs = l) : rdO l = (zs, 0) := by rw [← hl]; exact read_text h
theorem rdO_none {l : List UInt8} (h : ∀ zs, permB zs = true → txtL zs ≠ l) : rdO l = ([], 6) := by
  unfold rdO
  rw [if_neg]
  simp only [Bool.and_eq_true, beq_iff_eq]
  rintro ⟨⟨_, h1⟩, h2⟩
  exact h _ h1 h2

end Go.Proofs.YtcecmjnbhppocaaDoor
