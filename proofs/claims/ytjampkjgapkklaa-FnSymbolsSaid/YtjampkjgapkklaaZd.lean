/- Hilbert symbols at 2 are multiplicative; the product over all primes up to 97: plain. -/
import Derived.Test.YtjampkjgapkklaaZc
namespace Go.Proofs.Ytjampkjgapkklaa
set_option linter.unusedVariables false
set_option linter.unusedSimpArgs false

theorem two_tab : [(1:Int),3,5,7].all (fun x => [(1:Int),3,5,7].all fun x' => decide (((x * x' % 8) * (x * x' % 8) - 1) / 8 % 2 = ((x * x - 1) / 8 + (x' * x' - 1) / 8) % 2) && [(1:Int),3,5,7].all fun y =>
    decide (((x * x' % 8 - 1) / 2 * ((y - 1) / 2)) % 2 = ((x - 1) / 2 * ((y - 1) / 2) + (x' - 1) / 2 * ((y - 1) / 2)) % 2)) = true := by decide +kernel
theorem odd7 {x : Int} (h : x % 2 = 1) (h0 : 0 ≤ x) (h1 : x ≤ 7) : x ∈ [(1:Int),3,5,7] := by
  have : x = 1 ∨ x = 3 ∨ x = 5 ∨ x = 7 := by omega
  rcases this with rfl | rfl | rfl | rfl <;> decide
theorem signV_congr {m n : Int} (h : m % 2 = n % 2) : signV m = signV n := by unfold signV; rw [h]
theorem hil2_mul {x x' y : Int} (hx : x ∈ [(1:Int),3,5,7]) (hx' : x' ∈ [(1:Int),3,5,7]) (hy : y ∈ [(1:Int),3,5,7]) (k k' m : Int) : hil2 (k + k') m (x * x' % 8) y = hil2 k m x y * hil2 k' m x' y := by
  have h := List.all_eq_true.1 (List.all_eq_true.1 two_tab x hx) x' hx'
  rw [Bool.and_eq_true] at h
  have h1 := of_decide_eq_true h.1
  have h2 := of_decide_eq_true (List.all_eq_true.1 h.2 y hy)
  unfold hil2
  rw [← signV_add]
  apply signV_congr
  generalize ((x * x' % 8) * (x * x' % 8) - 1) / 8 = E at *
  generalize (x * x' % 8 - 1) / 2 * ((y - 1) / 2) = A at *
  generalize (x - 1) / 2 * ((y - 1) / 2) = A1 at *
  generalize (x' - 1) / 2 * ((y - 1) / 2) = A2 at *
  generalize (x * x - 1) / 8 = E1 at *
  generalize (x' * x' - 1) / 8 = E2 at *
  generalize (y * y - 1) / 8 = F at *
  obtain ⟨t, ht⟩ : ∃ t, E = E1 + E2 + 2 * t := ⟨(E - E1 - E2) / 2, by omega⟩
  have e1 : m * E = m * E1 + m * E2 + 2 * (m * t) := by rw [ht]; grind
  have e2 : (k + k') * F = k * F + k' * F := by grind
  omega
theorem hilV_two (a b : Int) : hilV 2 a b = hil2 (vp 2 a) (vp 2 b) (a / 2 ^ vp 2 a % 8) (b / 2 ^ vp 2 b % 8) := by
  unfold hilV
  rw [if_neg (by decide), if_pos rfl]
theorem hilV2_mul {a a' b : Int} (ha : a ≠ 0) (ha' : a' ≠ 0) (hb : b ≠ 0) : hilV 2 (a * a') b = hilV 2 a b * hilV 2 a' b := by
  obtain ⟨e1, e2⟩ := vp_mul (p := 2) (by decide) ha ha'
  have o1 := (vp_spec (p := 2) (by omega) ha).2.1
  have o2 := (vp_spec (p := 2) (by omega) ha').2.1
  have o3 := (vp_spec (p := 2) (by omega) hb).2.1
  rw [hilV_two, hilV_two, hilV_two, e2, e1, Int.natCast_add, Int.mul_emod]
  exact hil2_mul (odd7 (by omega) (by omega) (by omega)) (odd7 (by omega) (by omega) (by omega)) (odd7 (by omega) (by omega) (by omega)) _ _ _

/-- All primes up to 97. -/
def allP : List Int := 2 :: gensL.map (·.1)
def hilF (a b : Int) : Int := hilV 0 a b * (allP.map fun p => hilV p a b).prod
theorem prod_mul (f g : Int → Int) : ∀ L : List Int, (L.map fun p => f p * g p).prod = (L.map f).prod * (L.map g).prod
  | [] => rfl
  | p :: L => by simp only [List.map_cons, List.prod_cons]; rw [prod_mul f g L]; grind
theorem hilF_mul {a a' b : Int} (ha : a ≠ 0) (ha' : a' ≠ 0) (hb : b ≠ 0) : hilF (a * a') b = hilF a b * hilF a' b := by
  have : (allP.map fun p => hilV p (a * a') b) = allP.map fun p => hilV p a b * hilV p a' b := by
    apply List.map_congr_left
    intro p hp
    rcases List.mem_cons.1 hp with rfl | hp
    · exact hilV2_mul ha ha' hb
    · obtain ⟨x, hx, rfl⟩ := List.mem_map.1 hp
      exact hilV_mul hx ha ha' hb
  unfold hilF
  rw [this, prod_mul, hil0_mul ha ha']
  grind
theorem hilF_comm (a b : Int) : hilF a b = hilF b a := by
  unfold hilF
  rw [hilV_comm 0 a b]
  congr 2
  apply List.map_congr_left
  intro p _
  exact hilV_comm p a b
theorem hilF_gens : (-1 :: allP).all (fun a => (-1 :: allP).all fun b => decide (hilF a b = 1)) = true := by decide +kernel
inductive Smooth : Int → Prop
  | gen {a : Int} : a ∈ (-1 :: allP) → Smooth a
  | mul {a b : Int} : Smooth a → Smooth b → Smooth (a * b)
theorem Smooth.neg : Smooth (-1) := .gen (List.mem_cons_self)
theorem Smooth.one : Smooth 1 := Smooth.neg.mul Smooth.neg
theorem allP_ne : (-1 :: allP).all (fun a => decide (a ≠ 0)) = true := by decide +kernel
theorem Smooth.ne {a : Int} (h : Smooth a) : a ≠ 0 := by
  induction h with
  | gen h => exact of_decide_eq_true (List.all_eq_true.1 allP_ne _ h)
  | mul _ _ h1 h2 => exact Int.mul_ne_zero h1 h2
theorem hilF_smooth1 {a g : Int} (h : Smooth a) (hg : g ∈ (-1 :: allP)) : hilF a g = 1 := by
  have g0 : g ≠ 0 := of_decide_eq_true (List.all_eq_true.1 allP_ne _ hg)
  induction h with
  | gen h => exact of_decide_eq_true (List.all_eq_true.1 (List.all_eq_true.1 hilF_gens _ h) g hg)
  | mul h1 h2 i1 i2 => rw [hilF_mul h1.ne h2.ne g0, i1, i2]; rfl
theorem hilF_smooth {a b : Int} (h : Smooth a) (k : Smooth b) : hilF a b = 1 := by
  rw [hilF_comm]
  induction k with
  | gen hg => rw [hilF_comm]; exact hilF_smooth1 h hg
  | mul h1 h2 i1 i2 => rw [hilF_mul h1.ne h2.ne h.ne, i1, i2]; rfl

end Go.Proofs.Ytjampkjgapkklaa
