/- Newton polygons: the two ways to the lower hull give the same corners: plain. -/
import Derived.Test.YtelpnpfmedlklaaOa
namespace Go.Proofs.Ytelpnpfmedlklaa
set_option linter.unusedVariables false
set_option linter.unusedSimpArgs false

/-- c lies on or below the line from a past b. -/
def TL (a b c : Int × Int) : Prop := (c.2 - a.2) * (b.1 - a.1) ≤ (b.2 - a.2) * (c.1 - a.1)
instance (a b c : Int × Int) : Decidable (TL a b c) := inferInstanceAs (Decidable (_ ≤ _))
theorem TL_iff (a b c : Int × Int) : TL a b c ↔ (c.2 - b.2) * (b.1 - a.1) ≤ (b.2 - a.2) * (c.1 - b.1) := by
  unfold TL
  have e1 : (c.2 - a.2) * (b.1 - a.1) = (c.2 - b.2) * (b.1 - a.1) + (b.2 - a.2) * (b.1 - a.1) := by grind
  have e2 : (b.2 - a.2) * (c.1 - a.1) = (b.2 - a.2) * (c.1 - b.1) + (b.2 - a.2) * (b.1 - a.1) := by grind
  omega
theorem TL_next {a b c d : Int × Int} (h1 : a.1 < b.1) (h2 : b.1 < c.1) (h3 : b.1 < d.1) (ht : TL a b c) (hc : ¬ TL a b d) : TL b d c := by
  rw [TL_iff] at ht hc
  unfold TL
  have u0 : 0 < b.1 - a.1 := by omega
  have s0 : 0 < d.1 - b.1 := by omega
  have r0 : 0 < c.1 - b.1 := by omega
  generalize b.1 - a.1 = u at *
  generalize b.2 - a.2 = v at *
  generalize d.1 - b.1 = s at *
  generalize d.2 - b.2 = t at *
  generalize c.1 - b.1 = r at *
  generalize c.2 - b.2 = q at *
  refine Int.le_of_mul_le_mul_left ?_ u0
  have e1 := Int.mul_le_mul_of_nonneg_right ht (show 0 ≤ s by omega)
  have e2 := Int.mul_lt_mul_of_pos_right (show v * s < t * u by omega) r0
  have e3 : u * (q * s) = q * u * s := by grind
  have e4 : u * (t * r) = t * u * r := by grind
  have e5 : v * r * s = v * s * r := by grind
  omega

/-- The stack (its top first) without what is no corner any more. -/
def popR : List (Int × Int) → Int × Int → List (Int × Int)
  | b :: a :: S, c => if TL a b c then popR (a :: S) c else b :: a :: S
  | S, c => S
termination_by S _ => S.length
def popL (L : List (Int × Int)) (c : Int × Int) : List (Int × Int) := (popR L.reverse c).reverse
theorem popR_two (b a : Int × Int) (S : List (Int × Int)) (c : Int × Int) : popR (b :: a :: S) c = if TL a b c then popR (a :: S) c else b :: a :: S := by rw [popR]
theorem popR_one (b c : Int × Int) : popR [b] c = [b] := by rw [popR]; simp
theorem popR_nil (c : Int × Int) : popR [] c = [] := by rw [popR]; simp
theorem popR_suffix (c : Int × Int) : ∀ S : List (Int × Int), popR S c <:+ S ∧ (S ≠ [] → popR S c ≠ [])
  | [] => by rw [popR_nil]; simp
  | [b] => by rw [popR_one]; simp
  | b :: a :: S => by
    rw [popR_two]
    obtain ⟨h1, h2⟩ := popR_suffix c (a :: S)
    split
    · exact ⟨h1.trans (List.suffix_cons ..), fun _ => h2 (by simp)⟩
    · simp
theorem popR_snoc (c a : Int × Int) : ∀ R : List (Int × Int), R ≠ [] → (∀ b, popR R c = [b] → popR (R ++ [a]) c = if TL a b c then [a] else [b, a]) ∧ ((∀ b, popR R c ≠ [b]) → popR (R ++ [a]) c = popR R c ++ [a])
  | [], h => absurd rfl h
  | [b], _ => by
    rw [popR_one]
    refine ⟨?_, fun h => absurd rfl (h b)⟩
    rintro b' hb
    cases hb
    rw [List.singleton_append, popR_two, popR_one]
  | b :: a' :: S, _ => by
    obtain ⟨h1, h2⟩ := popR_snoc c a (a' :: S) (by simp)
    rw [List.cons_append, List.cons_append] at *
    rw [popR_two, popR_two]
    by_cases ht : TL a' b c
    · rw [if_pos ht, if_pos ht]; exact ⟨h1, h2⟩
    · rw [if_neg ht, if_neg ht]
      exact ⟨fun b' hb => by simp at hb, fun _ => rfl⟩
theorem popL_cons (c a : Int × Int) {L : List (Int × Int)} (hL : L ≠ []) : (∀ b, popL L c = [b] → popL (a :: L) c = if TL a b c then [a] else [a, b]) ∧ ((∀ b, popL L c ≠ [b]) → popL (a :: L) c = a :: popL L c) := by
  obtain ⟨h1, h2⟩ := popR_snoc c a L.reverse (by simpa using hL)
  unfold popL
  rw [List.reverse_cons]
  constructor
  · intro b hb
    have : popR L.reverse c = [b] := by rw [← List.reverse_reverse (popR L.reverse c), hb]; rfl
    rw [h1 b this]
    split <;> rfl
  · intro hb
    rw [h2 (fun b e => hb b (by rw [e]; rfl))]
    simp
theorem popL_one (a c : Int × Int) : popL [a] c = [a] := by unfold popL; rw [List.reverse_singleton, popR_one]; rfl
theorem popL_nil (c : Int × Int) : popL [] c = [] := by unfold popL; rw [List.reverse_nil, popR_nil]; rfl
theorem popL_prefix (L : List (Int × Int)) (c : Int × Int) : popL L c <+: L := by
  have := (popR_suffix c L.reverse).1
  unfold popL
  rw [← List.reverse_suffix, List.reverse_reverse]; exact this
theorem popL_ne {L : List (Int × Int)} (c : Int × Int) (h : L ≠ []) : popL L c ≠ [] := by
  unfold popL
  simpa using (popR_suffix c L.reverse).2 (by simpa using h)
/-- The scan from the front. -/
def frt : List (Int × Int) → Int × Int → List (Int × Int)
  | [], c => [c]
  | [a], c => [a, c]
  | a :: b :: L, c => if TL a b c then [a, c] else a :: frt (b :: L) c
def conv : List (Int × Int) → Prop
  | a :: b :: d :: L => ¬ TL a b d ∧ conv (b :: d :: L)
  | _ => True
theorem allpop {c : Int × Int} : ∀ (L : List (Int × Int)) (a b : Int × Int), conv (a :: b :: L) → (a :: b :: L).Pairwise (·.1 < ·.1) → (∀ x ∈ a :: b :: L, x.1 < c.1) → TL a b c → popL (b :: L) c = [b]
  | [], a, b, _, _, _, _ => popL_one b c
  | d :: L, a, b, hc, hp, hx, ht => by
    obtain ⟨p1, p2⟩ := List.pairwise_cons.1 hp
    obtain ⟨p3, p4⟩ := List.pairwise_cons.1 p2
    have h1 : TL b d c := TL_next (p1 b (by simp)) (hx b (by simp)) (p3 d (by simp)) ht hc.1
    have ih := allpop L b d hc.2 p2 (fun x h => hx x (by simp at h ⊢; right; exact h)) h1
    rw [(popL_cons c b (by simp)).1 d ih, if_pos h1]
theorem push_frt {c : Int × Int} : ∀ (L : List (Int × Int)), conv L → L.Pairwise (·.1 < ·.1) → (∀ x ∈ L, x.1 < c.1) → popL L c ++ [c] = frt L c
  | [], _, _, _ => by rw [popL_nil]; rfl
  | [a], _, _, _ => by rw [popL_one]; rfl
  | a :: b :: L, hc, hp, hx => by
    have hc2 : conv (b :: L) := by
      cases L with
      | nil => trivial
      | cons d L => exact hc.2
    have ih := push_frt (b :: L) hc2 (List.pairwise_cons.1 hp).2 (fun x h => hx x (List.mem_cons_of_mem _ h))
    rw [frt]
    by_cases h1 : popL (b :: L) c = [b]
    · rw [(popL_cons c a (by simp)).1 b h1]
      rw [h1] at ih
      split
      · rfl
      · rw [← ih]; rfl
    · have hnt : ¬ TL a b c := fun ht => h1 (allpop L a b hc hp hx ht)
      have h2 : ∀ x, popL (b :: L) c ≠ [x] := by
        intro x e
        have hpre := popL_prefix (b :: L) c
        rw [e] at hpre
        obtain ⟨t, ht⟩ := hpre
        simp at ht
        exact h1 (by rw [e, ht.1])
      rw [(popL_cons c a (by simp)).2 h2, if_neg hnt, List.cons_append, ih]
theorem frt_head (c b : Int × Int) : ∀ L : List (Int × Int), ∃ d L', frt (b :: L) c = b :: d :: L' ∧ (d = c ∨ ∃ L2, L = d :: L2)
  | [] => ⟨c, [], rfl, .inl rfl⟩
  | d :: L => by
    rw [frt]
    split
    · exact ⟨c, [], rfl, .inl rfl⟩
    · obtain ⟨e, L', h, _⟩ := frt_head c d L
      exact ⟨d, e :: L', by rw [h], .inr ⟨L, rfl⟩⟩
theorem conv_frt {c : Int × Int} : ∀ L : List (Int × Int), conv L → conv (frt L c)
  | [], _ => trivial
  | [a], _ => trivial
  | a :: b :: L, hc => by
    have hc2 : conv (b :: L) := by
      cases L with
      | nil => trivial
      | cons d L => exact hc.2
    have ih := conv_frt (c := c) (b :: L) hc2
    rw [frt]
    split
    · trivial
    · rename_i hnt
      obtain ⟨d, L', h, hd⟩ := frt_head c b L
      rw [h] at ih ⊢
      refine ⟨?_, ih⟩
      rcases hd with rfl | ⟨L2, rfl⟩
      · exact hnt
      · exact hc.1

/-! ### from corner to corner -/
/-- The last of the points past 'at' with the least slope, of the first j + 1. -/
def nxI (g : Nat → Int × Int) (at_ : Nat) : Nat → Nat
  | 0 => at_ + 1
  | j + 1 => if TL (g at_) (g (nxI g at_ j)) (g (at_ + 2 + j)) then at_ + 2 + j else nxI g at_ j
theorem nxI_bd (g : Nat → Int × Int) (a : Nat) : ∀ j, a < nxI g a j ∧ nxI g a j ≤ a + 1 + j
  | 0 => by simp [nxI]
  | j + 1 => by
    have := nxI_bd g a j
    rw [nxI]; split <;> omega
def jarG (g : Nat → Int × Int) (n : Nat) : Nat → Nat → List (Int × Int)
  | 0, _ => []
  | k + 1, a => if a + 1 < n then g (nxI g a (n - (a + 2))) :: jarG g n k (nxI g a (n - (a + 2))) else []
theorem jarG_snoc (g : Nat → Int × Int) (n : Nat) : ∀ (k k' a : Nat), a < n → n - a ≤ k → n + 1 - a ≤ k' → g a :: jarG g (n + 1) k' a = frt (g a :: jarG g n k a) (g n)
  | 0, k', a, h1, h2, h3 => by omega
  | k + 1, 0, a, h1, h2, h3 => by omega
  | k + 1, k' + 1, a, h1, h2, h3 => by
    rw [jarG, jarG, if_pos (show a + 1 < n + 1 by omega)]
    by_cases h : a + 1 < n
    · rw [if_pos h, show n + 1 - (a + 2) = n - (a + 2) + 1 by omega, nxI, show a + 2 + (n - (a + 2)) = n by omega, frt]
      obtain ⟨b1, b2⟩ := nxI_bd g a (n - (a + 2))
      split
      · rename_i ht
        cases k' with
        | zero => rfl
        | succ k' => rw [jarG, if_neg (by omega)]
      · rw [jarG_snoc g n k k' _ (by omega) (by omega) (by omega)]
    · rw [if_neg h, show n + 1 - (a + 2) = 0 by omega, nxI, show a + 1 = n by omega, frt]
      cases k' with
      | zero => rfl
      | succ k' => rw [jarG, if_neg (by omega)]
/-- The corners of the first n points. -/
def graG (g : Nat → Int × Int) : Nat → List (Int × Int)
  | 0 => []
  | n + 1 => popL (graG g n) (g n) ++ [g n]
theorem graG_mem (g : Nat → Int × Int) : ∀ n x, x ∈ graG g n → ∃ i, i < n ∧ x = g i
  | 0, x, h => by cases h
  | n + 1, x, h => by
    rw [graG, List.mem_append, List.mem_singleton] at h
    rcases h with h | rfl
    · obtain ⟨i, hi, rfl⟩ := graG_mem g n x ((popL_prefix _ _).subset h)
      exact ⟨i, by omega, rfl⟩
    · exact ⟨n, by omega, rfl⟩
theorem graG_rise {g : Nat → Int × Int} : ∀ n, (∀ i j, i < j → j < n → (g i).1 < (g j).1) → (graG g n).Pairwise (·.1 < ·.1)
  | 0, _ => List.Pairwise.nil
  | n + 1, h => by
    rw [graG, List.pairwise_append]
    refine ⟨(graG_rise n (fun i j a b => h i j a (by omega))).sublist (popL_prefix _ _).sublist, by simp, fun a ha b hb => ?_⟩
    obtain ⟨i, hi, rfl⟩ := graG_mem g n a ((popL_prefix _ _).subset ha)
    simp at hb
    subst hb
    exact h i n hi (by omega)
theorem graG_len (g : Nat → Int × Int) : ∀ n, (graG g n).length ≤ n
  | 0 => Nat.le_refl _
  | n + 1 => by
    have h1 := graG_len g n
    have h2 := (popL_prefix (graG g n) (g n)).length_le
    rw [graG, List.length_append, List.length_singleton]; omega
theorem gra_jar {g : Nat → Int × Int} : ∀ n, (∀ i j, i < j → j < n + 1 → (g i).1 < (g j).1) → graG g (n + 1) = g 0 :: jarG g (n + 1) (n + 1) 0 ∧ conv (graG g (n + 1))
  | 0, _ => by
    rw [graG, graG, popL_nil, jarG, if_neg (by omega)]
    exact ⟨rfl, trivial⟩
  | n + 1, h => by
    obtain ⟨i1, i2⟩ := gra_jar n (fun i j a b => h i j a (by omega))
    have hp := graG_rise (g := g) (n + 1) (fun i j a b => h i j a (by omega))
    have e := push_frt (c := g (n + 1)) (graG g (n + 1)) i2 hp (fun x hx => by
      obtain ⟨i, hi, rfl⟩ := graG_mem g (n + 1) x hx
      exact h i (n + 1) hi (by omega))
    have e2 : graG g (n + 2) = frt (graG g (n + 1)) (g (n + 1)) := by rw [graG, e]
    rw [e2]
    refine ⟨?_, conv_frt _ i2⟩
    rw [i1, jarG_snoc g (n + 1) (n + 1) (n + 2) 0 (by omega) (by omega) (by omega)]
/-- One look at the stack's two topmost. -/
theorem take_two {L : List (Int × Int)} {k : Nat} (hn : k + 1 < L.length) : L.take (k + 2) = L.take k ++ [L[k]'(by omega), L[k + 1]] := by
  rw [List.take_add_one, List.take_add_one, List.getElem?_eq_getElem (by omega), List.getElem?_eq_getElem (by omega), Option.toList_some, Option.toList_some, List.append_assoc]
  rfl
theorem take_oneP {L : List (Int × Int)} {k : Nat} (hn : k < L.length) : L.take (k + 1) = L.take k ++ [L[k]] := by
  rw [List.take_add_one, List.getElem?_eq_getElem (by omega), Option.toList_some]
theorem popL_pop {L : List (Int × Int)} {c : Int × Int} {k : Nat} (hn : k + 1 < L.length) (ht : TL (L[k]'(by omega)) (L[k + 1]) c) : popL (L.take (k + 2)) c = popL (L.take (k + 1)) c := by
  rw [take_two hn, take_oneP (by omega)]
  unfold popL
  simp only [List.reverse_append, List.reverse_cons, List.reverse_nil, List.nil_append, List.cons_append]
  rw [popR_two, if_pos ht]
theorem popL_stay {L : List (Int × Int)} {c : Int × Int} {k : Nat} (hn : k + 1 < L.length) (ht : ¬ TL (L[k]'(by omega)) (L[k + 1]) c) : popL (L.take (k + 2)) c = L.take (k + 2) := by
  rw [take_two hn]
  unfold popL
  simp only [List.reverse_append, List.reverse_cons, List.reverse_nil, List.nil_append, List.cons_append]
  rw [popR_two, if_neg ht]
  simp only [List.reverse_cons, List.reverse_reverse, List.append_assoc]
  rfl
theorem popL_few {L : List (Int × Int)} {c : Int × Int} {n : Nat} (h2 : n < 2) : popL (L.take n) c = L.take n := by
  cases L with
  | nil => simp [popL_nil]
  | cons a L =>
    cases n with
    | zero => simp [popL_nil]
    | succ n =>
      obtain rfl : n = 0 := by omega
      simp [popL_one]

end Go.Proofs.Ytelpnpfmedlklaa
