/- 'laws.FnExactPermutationWith' returns true for all arguments: the program's PermutationWith and the reference's give the same. Conditions: none. -/
import Derived.Test.YtdgigkbfekbkkaaRows
import Derived.WalkKit
import Derived.ProofKit
import Derived.OpenShut
import Derived.ShutString
import Derived.ChangeOld
import Derived.Below
import Derived.Lib.SmallJoins
import Derived.Test.YtdgigkbfekbkkaaPc
namespace Go.Proofs.Ytdgigkbfekbkkaa.permutationWith
open Go.ChangeShapes Go.WideShapes Go.ChangeAt Go.RowKit
open Go.ChangeMaps (open_string shut_string)
set_option linter.unusedVariables false
set_option linter.unusedSimpArgs false

def out (n r : Int) : List Int := if inB n 1 6 then if inB r 0 (factZ n - 1) then withL n.toNat r else [] else []
def code (n r : Int) : Int := if inB n 1 6 then if inB r 0 (factZ n - 1) then 0 else 2 else 2
set_option maxHeartbeats 1000000 in
theorem spec_any {n r : Int} {w : World} : Calls Try.prog 24 #[.int .i64 n, .int .i64 r] w (RetIC (out n r) (code n r) w) := by
  rcases Bool.eq_false_or_eq_true (inB n 1 6) with hi | hi
  · obtain ⟨n0, n1⟩ := inB_iff.1 hi
    obtain ⟨m, rfl⟩ : ∃ m : Nat, n = m := ⟨n.toNat, by omega⟩
    have hm : m ≤ 6 := by omega
    have HI := Lib.hid hi
    have hf := factZ_bd n1
    clear hi
    rcases Bool.eq_false_or_eq_true (inB r 0 (factZ m - 1)) with hj | hj
    · obtain ⟨h0, h1⟩ := inB_iff.1 hj
      have HJ := Lib.hid hj
      have h2 : r < factZ m := by omega
      clear hj h1
      go_enter Try.func24, Try.ntmps24
      go_wp2_with (first | (go_at_call 40; ((with_reducible refine (calls_bool (l01In_any _ _ _ _) HI.out).mono ?_); rintro e w' ⟨rfl, rfl⟩)) | (go_at_call 40; ((with_reducible refine (calls_bool (l01In_any _ _ _ _) HJ.out).mono ?_); rintro e w' ⟨rfl, rfl⟩)) | (go_at_call 51; ((with_reducible refine (l21Factorial_int _ _ (by omega) (by omega)).mono ?_); rintro e w' ⟨rfl, rfl⟩)))
      go_wp2_with (go_at_call 52; with_reducible refine (l21With_any m r _ hm h0 h2).mono ?_)
      rintro _ w1 ⟨v1, rfl, o1, hb1⟩
      go_wp2
      go_ret2
      exact ⟨v1, by simp [code, HI.out, HJ.out], by simpa [out, HI.out, HJ.out] using o1, hb1⟩
    · have HJ := Lib.hid hj
      clear hj
      go_enter Try.func24, Try.ntmps24
      go_wp2_with (first | (go_at_call 40; ((with_reducible refine (calls_bool (l01In_any _ _ _ _) HI.out).mono ?_); rintro e w' ⟨rfl, rfl⟩)) | (go_at_call 40; ((with_reducible refine (calls_bool (l01In_any _ _ _ _) HJ.out).mono ?_); rintro e w' ⟨rfl, rfl⟩)) | (go_at_call 51; ((with_reducible refine (l21Factorial_int _ _ (by omega) (by omega)).mono ?_); rintro e w' ⟨rfl, rfl⟩)))
      go_ret2
      exact ⟨.slice none 0 0, by simp [code, HI.out, HJ.out], by simpa [out, HI.out, HJ.out] using Own.nil, Below.refl _ _⟩
  · have HI := Lib.hid hi
    clear hi
    go_enter Try.func24, Try.ntmps24
    go_wp2_with (go_at_call 40; ((with_reducible refine (calls_bool (l01In_any _ _ _ _) HI.out).mono ?_); rintro e w' ⟨rfl, rfl⟩))
    go_ret2
    exact ⟨.slice none 0 0, by simp [code, HI.out], by simpa [out, HI.out] using Own.nil, Below.refl _ _⟩
set_option maxHeartbeats 1000000 in
theorem impl_any {n r : Int} {w : World} : Calls Try.prog 25 #[.int .i64 n, .int .i64 r] w (RetIC (out n r) (code n r) w) := by
  rcases Bool.eq_false_or_eq_true (inB n 1 6) with hi | hi
  · obtain ⟨n0, n1⟩ := inB_iff.1 hi
    obtain ⟨m, rfl⟩ : ∃ m : Nat, n = m := ⟨n.toNat, by omega⟩
    have hm : m ≤ 6 := by omega
    have HI := Lib.hid hi
    have hf := factZ_bd n1
    clear hi
    rcases Bool.eq_false_or_eq_true (inB r 0 (factZ m - 1)) with hj | hj
    · obtain ⟨h0, h1⟩ := inB_iff.1 hj
      have HJ := Lib.hid hj
      have h2 : r < factZ m := by omega
      clear hj h1
      go_enter Try.func25, Try.ntmps25
      go_wp2_with (first | (go_at_call 42; ((with_reducible refine (calls_bool (within_any _ _ _ _) HI.out).mono ?_); rintro e w' ⟨rfl, rfl⟩)) | (go_at_call 42; ((with_reducible refine (calls_bool (within_any _ _ _ _) HJ.out).mono ?_); rintro e w' ⟨rfl, rfl⟩)) | (go_at_call 53; ((with_reducible refine (factorial_int _ _ (by omega) (by omega)).mono ?_); rintro e w' ⟨rfl, rfl⟩)))
      go_wp2_with (go_at_call 54; with_reducible refine (withRank_any m r _ hm h0 h2).mono ?_)
      rintro _ w1 ⟨v1, rfl, o1, hb1⟩
      go_wp2
      go_ret2
      exact ⟨v1, by simp [code, HI.out, HJ.out], by simpa [out, HI.out, HJ.out] using o1, hb1⟩
    · have HJ := Lib.hid hj
      clear hj
      go_enter Try.func25, Try.ntmps25
      go_wp2_with (first | (go_at_call 42; ((with_reducible refine (calls_bool (within_any _ _ _ _) HI.out).mono ?_); rintro e w' ⟨rfl, rfl⟩)) | (go_at_call 42; ((with_reducible refine (calls_bool (within_any _ _ _ _) HJ.out).mono ?_); rintro e w' ⟨rfl, rfl⟩)) | (go_at_call 53; ((with_reducible refine (factorial_int _ _ (by omega) (by omega)).mono ?_); rintro e w' ⟨rfl, rfl⟩)))
      go_ret2
      exact ⟨.slice none 0 0, by simp [code, HI.out, HJ.out], by simpa [out, HI.out, HJ.out] using Own.nil, Below.refl _ _⟩
  · have HI := Lib.hid hi
    clear hi
    go_enter Try.func25, Try.ntmps25
    go_wp2_with (go_at_call 42; ((with_reducible refine (calls_bool (within_any _ _ _ _) HI.out).mono ?_); rintro e w' ⟨rfl, rfl⟩))
    go_ret2
    exact ⟨.slice none 0 0, by simp [code, HI.out], by simpa [out, HI.out] using Own.nil, Below.refl _ _⟩

set_option maxHeartbeats 4000000 in
theorem walk (a0 : Int) (a1 : Int) (w : World) (ha0 : -9223372036854775808 ≤ a0 ∧ a0 ≤ 9223372036854775807) (ha1 : -9223372036854775808 ≤ a1 ∧ a1 ≤ 9223372036854775807) :
    Calls Try.prog 7 #[.int .i64 a0, .int .i64 a1] w fun e w' => e = .returned (.bool true) ∧ Below w.heap.size w w' := by
  have B0 : Below w.heap.size w w := Below.refl _ _
  go_enter Try.func7, Try.ntmps7
  go_wp2_with (go_at_call 24; with_reducible refine (spec_any).mono ?_)
  rintro _ w1 ⟨v1, rfl, o1, hb1⟩
  have B1 : Below w.heap.size w w1 := B0.trans (hb1.mono B0.size)
  have l1 := o1.1
  go_wp2_with (go_at_call 25; with_reducible refine (impl_any).mono ?_)
  rintro _ w2 ⟨v2, rfl, o2, hb2⟩
  have B2 : Below w.heap.size w w2 := B1.trans (hb2.mono B1.size)
  have l2 := o2.1
  go_wp2_with (go_at_call 15; with_reducible refine (eqInt64S_same o2.reads (o1.step hb2).reads).mono ?_)
  rintro _ w3 ⟨rfl, hb3⟩
  have B3 : Below w.heap.size w w3 := B2.trans (hb3.mono B2.size)
  go_wp2_with (go_at_call 20; with_reducible refine (markInt64S_any _ (by omega) (by omega) (o2.step hb3)).mono ?_)
  rintro _ w4 ⟨rfl, o4, hg4⟩
  have B4 : Below w.heap.size w w4 := B3.grown hg4 B3.size (fun k hk => by have := (o2.lt k hk).1; have := B1.size; omega)
  go_wp2_with (go_at_call 21; with_reducible refine (heldInt64S_any _ (by omega) (by omega) o4.reads).mono ?_)
  rintro _ _ ⟨rfl, rfl⟩
  go_wp2_with (go_at_call 25; with_reducible refine (impl_any).mono ?_)
  rintro _ w5 ⟨v5, rfl, o5, hb5⟩
  have B5 : Below w.heap.size w w5 := B4.trans (hb5.mono B4.size)
  have l5 := o5.1
  go_wp2_with (go_at_call 15; with_reducible refine (eqInt64S_same o5.reads ((((o1.step hb2).step hb3).kept hg4 (own_apart' o1 o2)).step hb5).reads).mono ?_)
  rintro _ w6 ⟨rfl, hb6⟩
  have B6 : Below w.heap.size w w6 := B5.trans (hb6.mono B5.size)
  go_wp2_with (go_at_call 21; with_reducible refine (heldInt64S_any _ (by omega) (by omega) ((o4.step hb5).step hb6).reads).mono ?_)
  rintro _ _ ⟨rfl, rfl⟩
  go_wp2
  go_ret
  exact ⟨rfl, B6⟩

theorem own : ownKnob Try.prog.godebug = none := by kernel_rfl
theorem laidOut : laidOutB Try.prog = true := by kernel_rfl

set_option maxRecDepth 100000 in
theorem lifted (os : Os) (started : os.Started) (H : Type) (enc : TypeId × Value → H) :
    ReturnsInHanded {} Try.checked os 7 .any (Rows.fnExactPermutationWithSpec.pre6 enc Try.prog Try.f7 Rows.fnExactPermutationWithRow.domain false) (Rows.fnExactPermutationWithSpec.post enc Try.prog Try.f7 false true false false) := by
  refine returnsInHanded_of_change (C := Try.checked) own started (by kernel_rfl) Try.func7
    (ChangeSpec.witness6 (enc := enc) (C := Try.checked) false ⟨#[], #[.int .i64 0, .int .i64 0], []⟩ 8 (by kernel_rfl) (by kernel_rfl) (by kernel_rfl) (by kernel_rfl)) ?_
  intro W base args ds gs before hval0 hW hcnd _
  have hval : ∀ (j : Nat) t v, Try.f7.params[j]? = some t → args[j]? = some v → Value.okWide Try.prog W .any base t v := hval0
  have hW' := hW
  obtain ⟨p, q, hA0, hV, rfl, hfz, hnd⟩ := hW
  have hA : DataW.TrodAll enc Try.prog W 0 (fun _ => true) true Try.f7.params.toList args.toList ds p := hA0
  rw [Try.params7] at hA hval
  obtain ⟨v0, vs0, d0, ds0, p0, q0, hargs, rfl, rfl, h0, r0⟩ := trodAll_cons hA
  obtain ⟨v1, vs1, d1, ds1, p1, q1, rfl, rfl, rfl, h1, r1⟩ := trodAll_cons r0
  obtain ⟨rfl, rfl, rfl⟩ := trodAll_nil r1
  obtain rfl : args = #[v0, v1] := by cases args; simp_all
  obtain ⟨rfl, rfl⟩ := trodVars_none hV
  have k0 := h0
  have lt0 : ∀ x ∈ p0, x.block < W.heap.size := by obtain ⟨m, hm⟩ := k0; exact DataW.trod_lt m _ _ _ hm
  obtain ⟨a0, rfl, _, _, wf0⟩ := open_int Try.underlying2 (hval 0 2 v0 rfl rfl) h0
  have k1 := h1
  have lt1 : ∀ x ∈ p1, x.block < W.heap.size := by obtain ⟨m, hm⟩ := k1; exact DataW.trod_lt m _ _ _ hm
  obtain ⟨a1, rfl, _, _, wf1⟩ := open_int Try.underlying2 (hval 1 2 v1 rfl rfl) h1
  clear hA0 hval0
  refine (walk a0 a1 W (bounds_i64 wf0) (bounds_i64 wf1)).mono fun e W' ⟨he, bel⟩ => ?_
  subst he
  exact ⟨_, rfl, _, _, _, [], _, [], hW', trodAll_mk1 (shut_bool Try.underlying4 _), (trodAll_cons_mk (Below.trod laidOut (by kernel_rfl) (of_decide_eq_true (by kernel_rfl)) k0 bel lt0) (trodAll_cons_mk (Below.trod laidOut (by kernel_rfl) (of_decide_eq_true (by kernel_rfl)) k1 bel lt1) trodAll_mk0)), rfl, bel.frame _, fun h => by cases h⟩

theorem over : Rows.fnExactPermutationWithRow.holds Try.pinned (OpenSpec.ofChange Rows.fnExactPermutationWithSpec) :=
  OpenClaim.holds_of_wide 7 Try.f7 rfl rfl rfl rfl rfl rfl rfl ⟨rfl, rfl, rfl, rfl, rfl⟩ rfl rfl rfl rfl rfl (by kernel_rfl) Try.func7 (by kernel_rfl)
    (of_decide_eq_true (by kernel_rfl)) (by unfold Func.isWrapper; first | (rw [if_pos (by decide +kernel)]; kernel_rfl) | (rw [if_neg (by decide +kernel)]; exact ⟨rfl, rfl⟩))
    (fun os started H enc _ => lifted os started H enc)

theorem proved : Rows.FnExactPermutationWithSaid := over
#print axioms proved
end Go.Proofs.Ytdgigkbfekbkkaa.permutationWith
