/- Contracts: products of polynomials. -/
import Derived.Test.YtdkppikbneijaaaOf
import Derived.Test.YtdkppikbneijaaaT
namespace Go.Proofs.Ytdkppikbneijaaa
open Go.RowKit
set_option linter.unusedVariables false
set_option linter.unusedSimpArgs false

/-- 'make([]int64, N)'. -/
theorem make_ints {ops : Array Oper} {rest : List Oper} {o : Oper} {a : Act} {Q : Exit → Act → World → Prop} (w : World) (hgd : o.guard = none) (l c : Operand) (hop : o.op = Op.makeSlice 24 l c)
    (N : Nat) {L C : Int} (hl : a.eval l = .int .i64 L) (hc : a.eval c = .int .i64 C) (hL : L = (N : Int)) (hC : C = (N : Int)) (hN : N ≤ 1099511627776)
    (h : ∀ w', Own w' w.heap.size (.slice (some ⟨w.heap.size, 0, none⟩) N N) (List.replicate N 0) → Below w.heap.size w w' → w.heap.size < w'.heap.size → wpList Try.prog ops Q rest (a.put o.dst (.slice (some ⟨w.heap.size, 0, none⟩) N N)) w') :
    wpList Try.prog ops Q (o :: rest) a w := by
  obtain ⟨i0, hi, hz0, hz1, hz2⟩ := info_parts info64
  refine wpList_make_full w hgd l c 24 hop w.heap.size 2 i0 (.int .i64 0) 1 Try.underlying24 hi hz0 hz1 .i64 .i64 L C N hl hc hL hC (by rw [hz2]; omega) (by unfold maxLen; omega) (Nat.le_refl _) ?_
  intro w' hown hgrow
  have ho : Own w' w.heap.size (.slice (some ⟨w.heap.size, 0, none⟩) N N) (List.replicate N 0) := by
    rw [Nat.mul_one, show (Value.int .i64 0).cells = #[Value.int .i64 0] from rfl, made_zeros] at hown
    exact ⟨by simpa using hN, by rw [List.length_replicate]; exact hown⟩
  exact h w' ho ((Below.refl _ _).grown hgrow (Nat.le_refl _) (fun k hk => by cases hk)) (ho.lt w.heap.size rfl).2
theorem prod_cells {f g : List Int} {i k : Nat} (hi : i < f.length) (hk : k < g.length) : i + k < (rowP f g i (prodP f g i) k).length := by rw [rowP_len, prodP_len]; omega
theorem prod_step {f g : List Int} {a b : Int} (hf : Bd a f) (hg : Bd b g) (ha : 0 ≤ a ∧ a ≤ 1000000) (hb : 0 ≤ b ∧ b ≤ 1000000) (h1 : f.length ≤ 1000) (h2 : g.length ≤ 1000) {i : Nat} (hi : i < f.length) {k : Nat} (hk : k < g.length) :
    (-1000000000000 ≤ el f i * el g k ∧ el f i * el g k ≤ 1000000000000) ∧ (-2000000000000000000 ≤ el (rowP f g i (prodP f g i) k) (i + k) ∧ el (rowP f g i (prodP f g i) k) (i + k) ≤ 2000000000000000000) := by
  have h3 := abs_mul_le (hf i) (hg k)
  have h4 : a * b ≤ 1000000 * 1000000 := Int.mul_le_mul ha.2 hb.2 hb.1 (by omega)
  exact ⟨by omega, prod_num hf hg ha hb h1 h2 hi (by omega) (i + k)⟩

theorem mul_len {f g : List Int} : (mulL f g).length ≤ f.length + g.length - 1 := by
  unfold mulL
  split
  · simp
  · have := trimL_le (prodP f g f.length)
    rw [prodP_len] at this
    exact this
/-- The product by a prime. -/
def timL (p : Int) (f g : List Int) : List Int := redL p (mulL f g)
theorem timL_len (p : Int) (f g : List Int) : (timL p f g).length ≤ f.length + g.length - 1 := Nat.le_trans (redL_len p _) mul_len
theorem timL_in {p : Int} (hp : 1 ≤ p) (f g : List Int) : In p (timL p f g) := redL_in hp _
end Go.Proofs.Ytdkppikbneijaaa
