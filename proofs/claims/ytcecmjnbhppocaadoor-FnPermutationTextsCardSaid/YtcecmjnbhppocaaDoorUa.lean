/- Permutations up to six points: ranks, inverses, signs: plain. -/
import Derived.Test.YtcecmjnbhppocaaDoorPc
import Derived.Test.YtcecmjnbhppocaaDoorX
namespace Go.Proofs.YtcecmjnbhppocaaDoor
set_option linter.unusedVariables false
set_option linter.unusedSimpArgs false

/-- All ways to begin a permutation of n points with k of them. -/
def permsG (n : Nat) : Nat → List (List Int)
  | 0 => [[]]
  | k + 1 => (permsG n k).flatMap fun p => ((List.range n).filter fun (x : Nat) => !p.contains (x : Int)).map fun (x : Nat) => p ++ [(x : Int)]
theorem perms_take {zs : List Int} (h : permB zs = true) : ∀ k, k ≤ zs.length → zs.take k ∈ permsG zs.length k
  | 0, _ => by simp [permsG]
  | k + 1, hk => by
    have ih := perms_take h k (by omega)
    simp only [permB, Bool.and_eq_true, List.all_eq_true] at h
    have h4 := h.1 k (List.mem_range.2 (by omega))
    simp only [permAt, Bool.and_eq_true] at h4
    have hb := inB_iff.1 h4.1
    have hn := h4.2
    rw [List.take_add_one, el_get (by omega)]
    refine List.mem_flatMap.2 ⟨_, ih, List.mem_map.2 ⟨(el zs k).toNat, List.mem_filter.2 ⟨List.mem_range.2 (by omega), ?_⟩, ?_⟩⟩
    · rw [Int.toNat_of_nonneg hb.1]; exact hn
    · rw [Int.toNat_of_nonneg hb.1]; rfl
theorem perms_all {P : List Int → Bool} (h : [1, 2, 3, 4, 5, 6].all (fun n => (permsG n n).all P) = true) {zs : List Int} (hp : permB zs = true) : P zs = true := by
  obtain ⟨h1, h2, _⟩ := permB_bd hp
  have hm := perms_take hp zs.length (Nat.le_refl _)
  rw [List.take_length] at hm
  have h3 := List.all_eq_true.1 h zs.length (by
    have : zs.length = 1 ∨ zs.length = 2 ∨ zs.length = 3 ∨ zs.length = 4 ∨ zs.length = 5 ∨ zs.length = 6 := by omega
    rcases this with h | h | h | h | h | h <;> rw [h] <;> decide)
  exact List.all_eq_true.1 h3 zs hm
/-- The exchange of the points i and i + 1. -/
def swapL (n i : Nat) : List Int := ((seqL 0 n).set i ((i : Int) + 1)).set (i + 1) i
def bubL : Nat → List Int → List Nat
  | 0, _ => []
  | f + 1, b => match (List.range (b.length - 1)).find? (fun i => decide (el b (i + 1) < el b i)) with
    | none => []
    | some i => bubL f ((b.set i (el b (i + 1))).set (i + 1) (el b i)) ++ [i]
def foldP (n : Nat) (p : List Int) (w : List Nat) : List Int := w.foldl (fun p i => prodL p (swapL n i)) p

def chkInv (zs : List Int) : Bool := permB (invL zs) && permB (prodL zs (invL zs)) && decide (rankL (prodL zs (invL zs)) = 0)
def chkSwap (zs : List Int) : Bool := (List.range (zs.length - 1)).all fun i => permB (prodL zs (swapL zs.length i)) && decide (signL (prodL zs (swapL zs.length i)) = - signL zs)
def chkWord (zs : List Int) : Bool := decide (foldP zs.length (seqL 0 zs.length) (bubL 16 zs) = zs) && (bubL 16 zs).all fun i => decide (i < zs.length - 1)
def chkWith (n : Nat) : Bool := (List.range (factZ n).toNat).all fun r => permB (withL n r) && decide (rankL (withL n r) = r)
set_option maxRecDepth 100000 in
theorem chkInv_all : [1, 2, 3, 4, 5, 6].all (fun n => (permsG n n).all chkInv) = true := by decide +kernel
set_option maxRecDepth 100000 in
theorem chkSwap_all : [1, 2, 3, 4, 5, 6].all (fun n => (permsG n n).all chkSwap) = true := by decide +kernel
set_option maxRecDepth 100000 in
theorem chkWord_all : [1, 2, 3, 4, 5, 6].all (fun n => (permsG n n).all chkWord) = true := by decide +kernel
set_option maxRecDepth 100000 in
theorem chkWith_all : [1, 2, 3, 4, 5, 6].all chkWith = true := by decide +kernel
theorem chkOne_all : [1, 2, 3, 4, 5, 6].all (fun n => permB (seqL 0 n) && decide (signL (seqL 0 n) = 1)) = true := by decide +kernel
theorem chkPts_all : [1, 2, 3, 4, 5, 6].all (fun n => (List.range (n - 1)).all fun i => decide ((swapL n i).length = n) && (List.range n).all fun k => decide (0 ≤ el (swapL n i) k ∧ el (swapL n i) k < n)) = true := by decide +kernel

theorem six {n : Nat} (h1 : 1 ≤ n) (h2 : n ≤ 6) : n ∈ [1, 2, 3, 4, 5, 6] := by
  have : n = 1 ∨ n = 2 ∨ n = 3 ∨ n = 4 ∨ n = 5 ∨ n = 6 := by omega
  rcases this with h | h | h | h | h | h <;> rw [h] <;> decide
theorem with_rank {n : Nat} {r : Int} (h1 : 1 ≤ n) (h2 : n ≤ 6) (r0 : 0 ≤ r) (r1 : r < factZ n) : permB (withL n r) = true ∧ rankL (withL n r) = r := by
  have h := List.all_eq_true.1 (List.all_eq_true.1 chkWith_all n (six h1 h2)) r.toNat (List.mem_range.2 (by omega))
  rw [Bool.and_eq_true, Int.toNat_of_nonneg r0] at h
  exact ⟨h.1, of_decide_eq_true h.2⟩
theorem inv_rank {zs : List Int} (h : permB zs = true) : permB (invL zs) = true ∧ permB (prodL zs (invL zs)) = true ∧ rankL (prodL zs (invL zs)) = 0 := by
  have := perms_all chkInv_all h
  simp only [chkInv, Bool.and_eq_true, decide_eq_true_eq] at this
  exact ⟨this.1.1, this.1.2, this.2⟩
theorem swap_len {n i : Nat} : (swapL n i).length = n := by unfold swapL; rw [List.length_set, List.length_set, seq_len]
theorem swap_pts {n i : Nat} (h1 : 1 ≤ n) (h2 : n ≤ 6) (hi : i < n - 1) : Pts n (swapL n i) := by
  have h := List.all_eq_true.1 (List.all_eq_true.1 chkPts_all n (six h1 h2)) i (List.mem_range.2 hi)
  rw [Bool.and_eq_true] at h
  intro k hk
  rw [swap_len] at hk
  exact of_decide_eq_true (List.all_eq_true.1 h.2 k (List.mem_range.2 hk))
theorem swap_sign {zs : List Int} (h : permB zs = true) {i : Nat} (hi : i < zs.length - 1) : permB (prodL zs (swapL zs.length i)) = true ∧ signL (prodL zs (swapL zs.length i)) = - signL zs := by
  have := List.all_eq_true.1 (perms_all chkSwap_all h) i (List.mem_range.2 hi)
  simp only [Bool.and_eq_true, decide_eq_true_eq] at this
  exact this
def altV : Nat → Int
  | 0 => 1
  | k + 1 => - altV k
theorem fold_sign {n : Nat} : ∀ (w : List Nat) (p : List Int), p.length = n → permB p = true → (∀ i ∈ w, i < n - 1) → permB (foldP n p w) = true ∧ signL (foldP n p w) = signL p * altV w.length
  | [], p, hl, hp, _ => ⟨hp, by show signL p = signL p * 1; omega⟩
  | i :: w, p, hl, hp, hw => by
    have h1 := swap_sign hp (i := i) (by rw [hl]; exact hw i (List.mem_cons_self))
    rw [hl] at h1
    have h2 := fold_sign w (prodL p (swapL n i)) (by rw [prodL_len, swap_len]) h1.1 (fun j hj => hw j (List.mem_cons_of_mem _ hj))
    refine ⟨h2.1, ?_⟩
    show signL (foldP n (prodL p (swapL n i)) w) = signL p * - altV w.length
    rw [h2.2, h1.2]
    grind
theorem fold_prod {n : Nat} (h1 : 1 ≤ n) (h2 : n ≤ 6) (a : List Int) : ∀ (w : List Nat) (p : List Int), p.length = n → (∀ i ∈ w, i < n - 1) → prodL a (foldP n p w) = foldP n (prodL a p) w
  | [], p, hl, _ => rfl
  | i :: w, p, hl, hw => by
    show prodL a (foldP n (prodL p (swapL n i)) w) = foldP n (prodL (prodL a p) (swapL n i)) w
    rw [fold_prod h1 h2 a w _ (by rw [prodL_len, swap_len]) (fun j hj => hw j (List.mem_cons_of_mem _ hj)), prodL_assoc (by rw [hl]; exact swap_pts h1 h2 (hw i (List.mem_cons_self)))]
theorem sign_mul {a b : List Int} (ha : permB a = true) (hb : permB b = true) (hl : a.length = b.length) : permB (prodL a b) = true ∧ signL (prodL a b) = signL a * signL b := by
  obtain ⟨n, hn⟩ : ∃ n, b.length = n := ⟨_, rfl⟩
  obtain ⟨b1, b2, _⟩ := permB_bd hb
  have hw := perms_all chkWord_all hb
  simp only [chkWord, Bool.and_eq_true, decide_eq_true_eq, List.all_eq_true] at hw
  have ho := List.all_eq_true.1 chkOne_all n (six (by omega) (by omega))
  simp only [Bool.and_eq_true, decide_eq_true_eq] at ho
  rw [hn] at hw
  generalize bubL 16 b = w at hw
  obtain ⟨e, hi⟩ := hw
  have s1 := fold_sign w (seqL 0 n) (seq_len _ _) ho.1 hi
  have s2 := fold_sign w a (by omega) ha hi
  have e2 : prodL a b = foldP n a w := by
    conv => lhs; rw [← e]
    rw [fold_prod (by omega) (by omega) a w _ (seq_len _ _) hi, prodL_one (by omega)]
  rw [e2]
  refine ⟨s2.1, ?_⟩
  rw [s2.2]
  rw [e, ho.2] at s1
  rw [s1.2]
  grind

end Go.Proofs.YtcecmjnbhppocaaDoor
