/- 'laws.FnExactReadPermutation' returns true for all arguments: the program's ReadPermutation and the reference's give the same. Conditions: the listed tables of Go's library read as listed (tied to the program's text). -/
import Derived.Test.YtcecmjnbhppocaaDoorRows
import Derived.WalkKit
import Derived.ProofKit
import Derived.OpenShut
import Derived.ShutString
import Derived.ChangeOld
import Derived.Below
import Derived.Lib.SmallJoins
import Derived.Test.YtcecmjnbhppocaaDoorSb
import Derived.Test.YtcecmjnbhppocaaDoorSj
import Derived.Test.YtcecmjnbhppocaaDoorSk
namespace Go.Proofs.YtcecmjnbhppocaaDoor.readLaw
open Go.ChangeShapes Go.WideShapes Go.ChangeAt Go.RowKit
open Go.ChangeMaps (open_string shut_string)
set_option linter.unusedVariables false
set_option linter.unusedSimpArgs false

set_option maxHeartbeats 4000000 in
set_option maxRecDepth 100000 in
theorem walk (a0 : ByteArray) (w : World) (ha0 : a0.size ≤ maxLen) (hmax : ∃ mx, w.cell? ⟨0, 0, none⟩ = some (.int .i64 mx)) :
    Calls Tryd.prog 4 #[.string a0] w fun e w' => e = .returned (.bool true) ∧ Below w.heap.size w w' := by
  have HMX := Lib.hid hmax
  clear hmax
  by_cases hbig0 : (a0.size : Int) ≤ 1048576
  case neg =>
    go_enter Tryd.func4, Tryd.ntmps4
    go_wp2
    go_ret
    exact ⟨rfl, Below.refl _ _⟩
  obtain ⟨l0, rfl⟩ : ∃ l, a0 = bs l := ⟨a0.data.toList, by apply ByteArray.ext; simp [bs]⟩
  rw [bs_size] at hbig0
  have hl0 : l0.length ≤ 1048576 := by omega
  have BSZ0 : (bs l0).size = l0.length := bs_size l0
  have B0 : Below w.heap.size w w := Below.refl _ _
  go_enter Tryd.func4, Tryd.ntmps4
  go_wp2_with (go_at_call 10; with_reducible refine (sReadPermutation_any l0 hl0 _).mono ?_)
  rintro _ w1 ⟨v1, rfl, o1, hb1⟩
  have B1 : Below w.heap.size w w1 := B0.trans (hb1.mono B0.size)
  have l1 := o1.1
  go_wp2_with (go_at_call 11; with_reducible refine (ReadPermutation_any l0 _ (max_below HMX.out (by assumption))).mono ?_)
  rintro _ w2 ⟨v2, rfl, o2, hb2⟩
  have B2 : Below w.heap.size w w2 := B1.trans (hb2.mono B1.size)
  have l2 := o2.1
  go_wp2_with (go_at_call 9; with_reducible refine (eqInt64S_same o2.reads (o1.step hb2).reads).mono ?_)
  rintro _ w3 ⟨rfl, hb3⟩
  have B3 : Below w.heap.size w w3 := B2.trans (hb3.mono B2.size)
  go_wp2_with (go_at_call 12; with_reducible refine (markInt64S_any _ (by omega) (by omega) (o2.step hb3)).mono ?_)
  rintro _ w4 ⟨rfl, o4, hg4⟩
  have B4 : Below w.heap.size w w4 := B3.grown hg4 B3.size (fun k hk => by have := (o2.lt k hk).1; have := B1.size; omega)
  go_wp2_with (go_at_call 13; with_reducible refine (heldInt64S_any _ (by omega) (by omega) o4.reads).mono ?_)
  rintro _ _ ⟨rfl, rfl⟩
  go_wp2_with (go_at_call 11; with_reducible refine (ReadPermutation_any l0 _ (max_below HMX.out (by assumption))).mono ?_)
  rintro _ w5 ⟨v5, rfl, o5, hb5⟩
  have B5 : Below w.heap.size w w5 := B4.trans (hb5.mono B4.size)
  have l5 := o5.1
  go_wp2_with (go_at_call 9; with_reducible refine (eqInt64S_same o5.reads ((((o1.step hb2).step hb3).kept hg4 (own_apart' o1 o2)).step hb5).reads).mono ?_)
  rintro _ w6 ⟨rfl, hb6⟩
  have B6 : Below w.heap.size w w6 := B5.trans (hb6.mono B5.size)
  go_wp2_with (go_at_call 13; with_reducible refine (heldInt64S_any _ (by omega) (by omega) ((o4.step hb5).step hb6).reads).mono ?_)
  rintro _ _ ⟨rfl, rfl⟩
  go_wp2
  go_ret
  exact ⟨rfl, B6⟩

theorem own : ownKnob Tryd.prog.godebug = none := by kernel_rfl
theorem laidOut : laidOutB Tryd.prog = true := by kernel_rfl

set_option maxRecDepth 100000 in
theorem lifted (os : Os) (started : os.Started) (H : Type) (enc : TypeId × Value → H) :
    ReturnsInHanded {} Tryd.checked os 4 .any (fun w args => (Rows.fnExactReadPermutationSpec.pre enc Tryd.prog Tryd.f4 Rows.fnExactReadPermutationRow.domain false w args ∧ laidMetH Tryd.prog Rows.fnExactReadPermutationRow.laid w) ∧ sizedMet enc Tryd.prog Tryd.f4 (OpenSpec.ofChange Rows.fnExactReadPermutationSpec) false w args) (Rows.fnExactReadPermutationSpec.post enc Tryd.prog Tryd.f4 false true false false) := by
  refine returns_laid_shaped (C := Tryd.checked) (X := fun w _ => laidMetH Tryd.prog Rows.fnExactReadPermutationRow.laid w) (fun _ _ _ hh h => h.of_heap hh) own started (by kernel_rfl) Tryd.func4
    (ChangeSpec.witness_at (enc := enc) (C := Tryd.checked) (os := os) (X := fun w _ => laidMetH Tryd.prog Rows.fnExactReadPermutationRow.laid w) false (laidWorld os) #[.string ⟨#[]⟩] 8 rfl (by kernel_rfl) (by kernel_rfl) (by kernel_rfl) (by kernel_rfl) (by kernel_rfl) (laidWorld_met os _)) ?_
  intro W base args ds gs before hval0 hW hcnd _ hL hsh _
  have hmax := maxLen_cell hsh
  have hval : ∀ (j : Nat) t v, Tryd.f4.params[j]? = some t → args[j]? = some v → Value.okWide Tryd.prog W .any base t v := hval0
  have hW' := hW
  obtain ⟨p, q, hA0, hV, rfl, hfz, hnd⟩ := hW
  have hA : DataW.TrodAll enc Tryd.prog W 0 (fun _ => true) true Tryd.f4.params.toList args.toList ds p := hA0
  rw [Tryd.params4] at hA hval
  obtain ⟨v0, vs0, d0, ds0, p0, q0, hargs, rfl, rfl, h0, r0⟩ := trodAll_cons hA
  obtain ⟨rfl, rfl, rfl⟩ := trodAll_nil r0
  obtain rfl : args = #[v0] := by cases args; simp_all
  obtain ⟨rfl, rfl⟩ := trodVars_none hV
  have k0 := h0
  have lt0 : ∀ x ∈ p0, x.block < W.heap.size := by obtain ⟨m, hm⟩ := k0; exact DataW.trod_lt m _ _ _ hm
  obtain ⟨a0, rfl, _, _, wf0⟩ := open_string Tryd.underlying9 (hval 0 9 v0 rfl rfl) h0
  clear hA0 hval0
  refine (walk a0 W wf0 hmax).mono fun e W' ⟨he, bel⟩ => ?_
  subst he
  exact ⟨_, rfl, _, _, _, [], _, [], hW', trodAll_mk1 (shut_bool Tryd.underlying4 _), (trodAll_cons_mk (Below.trod laidOut (by kernel_rfl) (of_decide_eq_true (by kernel_rfl)) k0 bel lt0) trodAll_mk0), rfl, bel.frame _, fun h => by cases h⟩

theorem over : Rows.fnExactReadPermutationRow.holds Tryd.pinned (OpenSpec.ofChange Rows.fnExactReadPermutationSpec) :=
  OpenClaim.holds_of_wide 4 Tryd.f4 rfl rfl rfl rfl rfl rfl rfl ⟨rfl, rfl, rfl, rfl, rfl⟩ rfl rfl rfl rfl rfl (by kernel_rfl) Tryd.func4 (by kernel_rfl)
    (of_decide_eq_true (by kernel_rfl)) (by unfold Func.isWrapper; first | (rw [if_pos (by decide +kernel)]; kernel_rfl) | (rw [if_neg (by decide +kernel)]; exact ⟨rfl, rfl⟩))
    (fun os started H enc _ => lifted os started H enc)

set_option maxRecDepth 100000 in
theorem proved : Rows.FnExactReadPermutationCardSaid :=
  Claim7.holds_tied_plain_at .later [] [.data, .data, .data, .data, .pinned] true (true, Rows.fnExactReadPermutationCard.stood.harness.2) false
    over (fun _ h => by cases h) (by kernel_rfl) (fun _ h => by cases h) fnExactReadPermutation_row_tie rfl ⟨rfl, rfl⟩ (by kernel_rfl) rfl
    (fun f fn hf hfn => by
      obtain rfl : f = 4 := Option.some.inj ((show Tryd.prog.funcNamed "loop.example/g01000/laws.FnExactReadPermutation" = some 4 by kernel_rfl).symm.trans hf) |>.symm
      obtain rfl : fn = Tryd.f4 := (Option.some.inj (Tryd.func4.symm.trans hfn)).symm
      exact ⟨by kernel_rfl, fun j t ht => by
        rw [Tryd.params4] at ht
        have h3 : t = 9 := by
          rcases j with _ | j
          · simpa using ht.symm
          · simp at ht
        subst h3
        exact (show Tryd.prog.wantsStandIn 9 = false by kernel_rfl)⟩)
    (by kernel_rfl)
#print axioms proved
end Go.Proofs.YtcecmjnbhppocaaDoor.readLaw
