/- Permutations up to six points: cycles and powers: plain. -/
import Derived.Test.YtaielmibofnddaaUa
import Derived.Test.YtaielmibofnddaaTc
import Derived.Test.YtaielmibofnddaaY
namespace Go.Proofs.Ytaielmibofnddaa
set_option linter.unusedVariables false
set_option linter.unusedSimpArgs false

def itr (a : List Int) : Nat → Int → Int
  | 0, x => x
  | k + 1, x => el a (itr a k x).toNat
def chkRows (zs : List Int) (L : List (List Int)) : Bool := decide ((L.map List.length).sum = zs.length) && L.all fun c => (List.range c.length).all fun k => decide (0 ≤ el c k ∧ el c k < zs.length) && decide (el zs (el c k).toNat = el c ((k + 1) % c.length))
def chkCyc (zs : List Int) : Bool := chkRows zs (cycL zs)
def chkOrb (zs : List Int) : Bool := (List.range zs.length).all fun x => [1, 2, 3, 4, 5, 6].any fun l => decide (itr zs l (x : Int) = x)
def chkId (zs : List Int) : Bool := decide (prodL zs (invL zs) = seqL 0 zs.length)
set_option maxRecDepth 100000 in
theorem chkCyc_all : [1, 2, 3, 4, 5, 6].all (fun n => (permsG n n).all chkCyc) = true := by decide +kernel
set_option maxRecDepth 100000 in
theorem chkOrb_all : [1, 2, 3, 4, 5, 6].all (fun n => (permsG n n).all chkOrb) = true := by decide +kernel
set_option maxRecDepth 100000 in
theorem chkId_all : [1, 2, 3, 4, 5, 6].all (fun n => (permsG n n).all chkId) = true := by decide +kernel
theorem chkRank_all : [1, 2, 3, 4, 5, 6].all (fun n => decide (rankL (seqL 0 n) = 0)) = true := by decide +kernel

theorem perm_pts {zs : List Int} (h : permB zs = true) : Pts zs.length zs := (permB_bd h).2.2
theorem perm_one {n : Nat} (h1 : 1 ≤ n) (h2 : n ≤ 6) : permB (seqL 0 n) = true ∧ rankL (seqL 0 n) = 0 := by
  have h := List.all_eq_true.1 chkOne_all n (six h1 h2)
  rw [Bool.and_eq_true] at h
  exact ⟨h.1, of_decide_eq_true (List.all_eq_true.1 chkRank_all n (six h1 h2))⟩
theorem perm_pow {zs : List Int} (h : permB zs = true) : ∀ k, permB (powR zs k) = true
  | 0 => (perm_one (permB_bd h).1 (permB_bd h).2.1).1
  | k + 1 => (sign_mul (perm_pow h k) h (powR_len zs k)).1
/-! ### cycles -/
theorem cyc_sum {zs : List Int} (h : permB zs = true) : ((cycL zs).map List.length).sum = zs.length := by
  have := perms_all chkCyc_all h
  simp only [chkCyc, chkRows, Bool.and_eq_true, decide_eq_true_eq] at this
  exact this.1
theorem cyc_row {zs : List Int} (h : permB zs = true) {c : List Int} (hc : c ∈ cycL zs) {k : Nat} (hk : k < c.length) : (0 ≤ el c k ∧ el c k < zs.length) ∧ el zs (el c k).toNat = el c ((k + 1) % c.length) := by
  have := perms_all chkCyc_all h
  simp only [chkCyc, chkRows, Bool.and_eq_true, decide_eq_true_eq] at this
  have h2 := List.all_eq_true.1 (List.all_eq_true.1 this.2 c hc) k (List.mem_range.2 hk)
  simp only [Bool.and_eq_true, decide_eq_true_eq] at h2
  exact h2
/-- How many points the first i rows have. -/
def lenS (L : List (List Int)) (i : Nat) : Nat := ((L.take i).map List.length).sum
theorem row_get {L : List (List Int)} {i : Nat} (h : i < L.length) : L[i]? = some (row L i) := by
  rw [row, List.getD_eq_getElem?_getD, List.getElem?_eq_getElem h]; rfl
theorem row_mem {L : List (List Int)} {i : Nat} (h : i < L.length) : row L i ∈ L := List.mem_of_getElem? (row_get h)
theorem lenS_next {L : List (List Int)} {i : Nat} (h : i < L.length) : lenS L (i + 1) = lenS L i + (row L i).length := by
  unfold lenS
  rw [List.take_add_one, row_get h]
  simp
theorem lenS_le (L : List (List Int)) (i : Nat) : lenS L i ≤ (L.map List.length).sum := by
  unfold lenS
  conv => rhs; rw [← List.take_append_drop i L, List.map_append, List.sum_append]
  omega
theorem typ_len {zs : List Int} (h : permB zs = true) : (typL zs).length ≤ 6 := by
  have hp : (typL zs).Perm (lensL (cycL zs) (cycL zs).length) := List.mergeSort_perm _ _
  have hl : (lensL (cycL zs) (cycL zs).length).length = (cycL zs).length := lens_len (Nat.le_refl _)
  have h1 := hp.length_eq
  have := (cycL_bd h).1
  omega
theorem sumI_perm : ∀ {L M : List Int}, L.Perm M → L.sum = M.sum := fun h => by
  induction h with
  | nil => rfl
  | cons x _ ih => simp [ih]
  | swap x y l => simp; omega
  | trans _ _ i1 i2 => exact i1.trans i2
theorem sumI_map : ∀ L : List (List Int), (L.map fun c => (c.length : Int)).sum = (((L.map List.length).sum : Nat) : Int)
  | [] => rfl
  | c :: L => by simp [sumI_map L]
theorem typ_sum {zs : List Int} (h : permB zs = true) : (typL zs).sum = zs.length := by
  have hp : (typL zs).Perm (lensL (cycL zs) (cycL zs).length) := List.mergeSort_perm _ _
  rw [sumI_perm hp, lensL, List.take_length, sumI_map, cyc_sum h]
theorem typ_bd {zs : List Int} (h : permB zs = true) : ∀ x ∈ typL zs, 0 ≤ x ∧ x ≤ 6 := by
  intro x hx
  have hp : (typL zs).Perm (lensL (cycL zs) (cycL zs).length) := List.mergeSort_perm _ _
  have hx2 := hp.mem_iff.1 hx
  rw [lensL, List.take_length] at hx2
  obtain ⟨c, hc, rfl⟩ := List.mem_map.1 hx2
  have := cycN_rows zs zs.length c hc
  have := (permB_bd h).2.1
  omega
/-! ### powers -/
theorem powR_itr {a : List Int} (h : Pts a.length a) {j : Nat} (hj : j < a.length) : ∀ k, el (powR a k) j = itr a k j
  | 0 => by rw [powR, seq_el hj, itr]; omega
  | k + 1 => by
    rw [← powL_step h, prodL_el (by rw [powR_len]; exact hj), powR_itr h hj k, itr]
theorem itr_add (a : List Int) (x : Int) (m : Nat) : ∀ k, itr a (m + k) x = itr a k (itr a m x)
  | 0 => rfl
  | k + 1 => by rw [← Nat.add_assoc, itr, itr, itr_add a x m k]
theorem itr_mul {a : List Int} {x : Int} {l : Nat} (h : itr a l x = x) : ∀ k, itr a (l * k) x = x
  | 0 => rfl
  | k + 1 => by rw [Nat.mul_succ, Nat.add_comm, itr_add, h, itr_mul h k]
theorem pow_whole {zs : List Int} (h : permB zs = true) : powR zs 60 = seqL 0 zs.length := by
  have ho := perms_all chkOrb_all h
  apply el_ext
  · rw [powR_len, seq_len]
  · intro j hj
    rw [powR_len] at hj
    rw [powR_itr (perm_pts h) hj, seq_el hj]
    have h2 := List.all_eq_true.1 ho j (List.mem_range.2 hj)
    obtain ⟨l, hl, he⟩ := List.any_eq_true.1 h2
    have he2 := itr_mul (of_decide_eq_true he)
    have : ∃ k, 60 = l * k := by
      simp at hl
      rcases hl with rfl | rfl | rfl | rfl | rfl | rfl
      · exact ⟨60, rfl⟩
      · exact ⟨30, rfl⟩
      · exact ⟨20, rfl⟩
      · exact ⟨15, rfl⟩
      · exact ⟨12, rfl⟩
      · exact ⟨10, rfl⟩
    obtain ⟨k, hk⟩ := this
    rw [hk, he2 k]
    omega
theorem inv_id {zs : List Int} (h : permB zs = true) : prodL zs (invL zs) = seqL 0 zs.length := of_decide_eq_true (perms_all chkId_all h)
theorem inv_pts {zs : List Int} (h : permB zs = true) : Pts (invL zs).length (invL zs) := perm_pts (inv_rank h).1
/-- One more power of the inverse, and the permutation takes it off again. -/
theorem inv_step {zs : List Int} (h : permB zs = true) (k : Nat) : prodL zs (powR (invL zs) (k + 1)) = powR (invL zs) k := by
  have hi := inv_pts h
  have hl := invL_len zs
  rw [← powL_step hi, ← prodL_assoc (by have := powR_pts hi k; exact this), inv_id h, ← hl, one_prodL (powR_pts hi k)]

end Go.Proofs.Ytaielmibofnddaa
