/- Contracts of the small integer functions: each returns the plain value and leaves the world alone. -/
import Derived.Test.YtelpnpfmedlklaaProg
import Derived.Test.YtelpnpfmedlklaaM
import Derived.Test.YtelpnpfmedlklaaQ
import Derived.WalkKit
import Derived.WalkSpells
import Derived.WalkLawsBesides
import Derived.Lib.Hide
namespace Go.Proofs.Ytelpnpfmedlklaa
open Go.RowKit
set_option linter.unusedVariables false
set_option linter.unusedSimpArgs false

theorem ret_bool {a b : Bool} (h : a = b) : Ending.returned (.bool a) = .returned (.bool b) := by rw [h]
theorem ret_int {k : IntKind} {a b : Int} (h : a = b) : Ending.returned (.int k a) = .returned (.int k b) := by rw [h]

theorem ret2 {k l : IntKind} {a a' b b' : Int} (h1 : a = a') (h2 : b = b') : Ending.returned (.tuple #[.int k a, .int l b]) = .returned (.tuple #[.int k a', .int l b']) := by rw [h1, h2]
theorem ret3 {k l m : IntKind} {a a' b b' c c' : Int} (h1 : a = a') (h2 : b = b') (h3 : c = c') : Ending.returned (.tuple #[.int k a, .int l b, .int m c]) = .returned (.tuple #[.int k a', .int l b', .int m c']) := by rw [h1, h2, h3]
theorem vint {k : IntKind} {a b : Int} (h : a = b) : Value.int k a = Value.int k b := by rw [h]
theorem vbool {a b : Bool} (h : a = b) : Value.bool a = Value.bool b := by rw [h]
/-- What 'Below' gives the walk behind a call that makes memory. -/
theorem bfacts {W w1 : World} (hb : Below W.heap.size W w1) : (∀ b o, b < W.heap.size → w1.cell? ⟨b, o, none⟩ = W.cell? ⟨b, o, none⟩) ∧ (∀ b o, b < W.heap.size → w1.frozen? ⟨b, o, none⟩ = W.frozen? ⟨b, o, none⟩) ∧ W.heap.size ≤ w1.heap.size :=
  ⟨fun b o h => hb.cell (p := ⟨b, o, none⟩) h, fun b o h => hb.frozen (p := ⟨b, o, none⟩) h, hb.size⟩

theorem calls_bool {P : Program} {f : FuncId} {args : Array Value} {w : World} {b b' : Bool} {R : World → Prop}
    (h : Calls P f args w fun e w' => e = .returned (.bool b) ∧ R w') (hb : b = b') : Calls P f args w fun e w' => e = .returned (.bool b') ∧ R w' := by subst hb; exact h
theorem calls_int {P : Program} {f : FuncId} {args : Array Value} {w : World} {k : IntKind} {b b' : Int} {R : World → Prop}
    (h : Calls P f args w fun e w' => e = .returned (.int k b) ∧ R w') (hb : b = b') : Calls P f args w fun e w' => e = .returned (.int k b') ∧ R w' := by subst hb; exact h
theorem below_box {w : World} (o : Obj) : Below w.heap.size w (w.alloc o) := (Below.refl _ _).alloc (Nat.le_refl _) _
/-- A boxed parameter, then whatever at most makes memory. -/
theorem below_boxed {w w' : World} {o : Obj} (hb : Below (w.alloc o).heap.size (w.alloc o) w') : Below w.heap.size w w' := (below_box o).trans (hb.mono (by simp))

theorem below_step {w W w' : World} (hb : Below W.heap.size W w') (h : w.heap.size ≤ W.heap.size) (k : Below w.heap.size w W) : Below w.heap.size w w' := k.trans (hb.mono h)

theorem within_any (n lo hi : Int) (w : World) :
    Calls Try.prog 21 #[.int .i64 n, .int .i64 lo, .int .i64 hi] w fun e w' => e = .returned (.bool (inB n lo hi)) ∧ w = w' := by
  by_cases h : lo ≤ n
  all_goals by_cases h2 : n ≤ hi
  all_goals go_enter Try.func21, Try.ntmps21
  all_goals go_wp2
  all_goals go_ret
  all_goals exact ⟨ret_bool (by simp [inB]; omega), rfl⟩

theorem l01In_any (n lo hi : Int) (w : World) :
    Calls Try.prog 16 #[.int .i64 n, .int .i64 lo, .int .i64 hi] w fun e w' => e = .returned (.bool (inB n lo hi)) ∧ w = w' := by
  by_cases h : lo ≤ n
  all_goals by_cases h2 : n ≤ hi
  all_goals go_enter Try.func16, Try.ntmps16
  all_goals go_wp2
  all_goals go_ret
  all_goals exact ⟨ret_bool (by simp [inB]; omega), rfl⟩

set_option maxHeartbeats 400000 in
theorem IsPrime_any (n : Int) (w : World) :
    Calls Try.prog 34 #[.int .i64 n] w fun e w' => e = .returned (.bool (inB n 2 1000000 && primeB n)) ∧ w = w' := by
  by_cases h : 2 ≤ n ∧ n ≤ 1000000
  · have hb : inB n 2 1000000 = true := inB_iff.2 h
    obtain ⟨h2, hn⟩ := h
    go_enter Try.func34, Try.ntmps34
    go_wp2_with (go_at_call 21; ((with_reducible refine (within_any _ _ _ _).mono ?_); rintro e w' ⟨rfl, rfl⟩))
    go_loop [3] (fun i => ∃ d : Int, i = .int .i64 d ∧ PrimeInv n d) (fun i => (2000 - intOf i).toNat)
    case atStart => exact ⟨2, rfl, primeInv_start h2⟩
    case round =>
      obtain ⟨d, rfl, hinv⟩ := hrel
      have hd1 := primeInv_bound hn hinv
      have hd2 : 2 ≤ d := hinv.1
      obtain ⟨hs1, hs2⟩ := sq_bound hd2 hd1
      go_wp2
      · go_ret
        exact ⟨ret_bool (primeInv_no hinv ‹_› (by simpa using ‹(n % d == 0) = true›)).symm, rfl⟩
      · go_round
        case rel => exact ⟨d + 1, rfl, primeInv_step hinv ‹_› (by simpa using ‹(n % d == 0) = false›)⟩
        case measure => simp [intOf]; omega
      · go_ret
        exact ⟨ret_bool (primeInv_yes h2 hinv ‹_›).symm, rfl⟩
  · have hb : inB n 2 1000000 = false := by rw [Bool.eq_false_iff]; exact fun h' => h (inB_iff.1 h')
    clear h
    go_enter Try.func34, Try.ntmps34
    go_wp2_with (go_at_call 21; ((with_reducible refine (within_any _ _ _ _).mono ?_); rintro e w' ⟨rfl, rfl⟩))
    go_ret
    exact ⟨ret_bool (by rw [hb]; rfl), rfl⟩

end Go.Proofs.Ytelpnpfmedlklaa
