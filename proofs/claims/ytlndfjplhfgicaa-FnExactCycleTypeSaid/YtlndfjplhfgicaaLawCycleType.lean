/- 'laws.FnExactCycleType' returns true for all arguments: the program's CycleType and the reference's give the same. Conditions: none. -/
import Derived.Test.YtlndfjplhfgicaaRows
import Derived.WalkKit
import Derived.ProofKit
import Derived.OpenShut
import Derived.ShutString
import Derived.ChangeOld
import Derived.Below
import Derived.Lib.SmallJoins
import Derived.Test.YtlndfjplhfgicaaTc
namespace Go.Proofs.Ytlndfjplhfgicaa.cycleTypeLaw
open Go.ChangeShapes Go.WideShapes Go.ChangeAt Go.RowKit
open Go.ChangeMaps (open_string shut_string)
set_option linter.unusedVariables false
set_option linter.unusedSimpArgs false

def out (zs : List Int) : List Int := if permB zs then typL zs else []
def code (zs : List Int) : Int := if permB zs then 0 else 1
set_option maxHeartbeats 1000000 in
theorem spec_any {v : Value} {zs : List Int} {w : World} (h : Reads w v zs) : Calls Try.prog 31 #[v] w (RetIC (out zs) (code zs) w) := by
  have HR := Lib.hid h
  rcases Bool.eq_false_or_eq_true (permB zs) with hp | hp
  · have HP := Lib.hid hp; clear hp h
    go_enter Try.func31, Try.ntmps31
    go_wp2_with (go_at_call 98; with_reducible refine (calls_bool (sIsPermutation_any HR.out) HP.out).mono ?_)
    rintro _ w1 ⟨rfl, hb1⟩
    go_wp2_with (go_at_call 99; with_reducible refine (l21Type_any (HR.out.step hb1) HP.out).mono ?_)
    rintro _ w2 ⟨v2, rfl, o2, hb2⟩
    go_wp2
    go_ret2
    exact ⟨v2, by simp [code, HP.out], by simpa [out, HP.out] using o2.mono hb1.size, hb1.trans (hb2.mono hb1.size)⟩
  · have HP := Lib.hid hp; clear hp h
    go_enter Try.func31, Try.ntmps31
    go_wp2_with (go_at_call 98; with_reducible refine (calls_bool (sIsPermutation_any HR.out) HP.out).mono ?_)
    rintro _ w1 ⟨rfl, hb1⟩
    go_wp2
    go_ret2
    exact ⟨.slice none 0 0, by simp [code, HP.out], by simpa [out, HP.out] using Own.nil, hb1⟩
set_option maxHeartbeats 1000000 in
theorem impl_any {v : Value} {zs : List Int} {w : World} (h : Reads w v zs) : Calls Try.prog 33 #[v] w (RetIC (out zs) (code zs) w) := by
  have HR := Lib.hid h
  rcases Bool.eq_false_or_eq_true (permB zs) with hp | hp
  · have HP := Lib.hid hp; clear hp h
    go_enter Try.func33, Try.ntmps33
    go_wp2_with (go_at_call 100; with_reducible refine (calls_bool (IsPermutation_any HR.out) HP.out).mono ?_)
    rintro _ _ ⟨rfl, rfl⟩
    go_wp2_with (go_at_call 101; with_reducible refine (cycleType_any HR.out HP.out).mono ?_)
    rintro _ w2 ⟨v2, rfl, o2, hb2⟩
    go_wp2
    go_ret2
    exact ⟨v2, by simp [code, HP.out], by simpa [out, HP.out] using o2, hb2⟩
  · have HP := Lib.hid hp; clear hp h
    go_enter Try.func33, Try.ntmps33
    go_wp2_with (go_at_call 100; with_reducible refine (calls_bool (IsPermutation_any HR.out) HP.out).mono ?_)
    rintro _ _ ⟨rfl, rfl⟩
    go_wp2
    go_ret2
    exact ⟨.slice none 0 0, by simp [code, HP.out], by simpa [out, HP.out] using Own.nil, Below.refl _ _⟩

set_option maxHeartbeats 4000000 in
theorem walk (a0 : Option Addr) (len0 cap0 : Nat) (z0 : List Int) (w : World) (ha0 : IsRow .i64 w a0 len0 cap0 z0) :
    Calls Try.prog 6 #[.slice a0 len0 cap0] w fun e w' => e = .returned (.bool true) ∧ Below w.heap.size w w' := by
  by_cases hbig0 : len0 ≤ 1048576
  case neg =>
    go_enter Try.func6, Try.ntmps6
    go_wp2
    go_ret
    exact ⟨rfl, Below.refl _ _⟩
  obtain ⟨Z0, rfl, hzb0, hr0⟩ := ha0.reads hbig0
  clear ha0
  have B0 : Below w.heap.size w w := Below.refl _ _
  go_enter Try.func6, Try.ntmps6
  go_wp2_with (go_at_call 32; with_reducible refine (toInt64S_any hr0).mono ?_)
  rintro _ w1 ⟨v1, rfl, o1, hb1⟩
  have B1 : Below w.heap.size w w1 := B0.trans (hb1.mono B0.size)
  go_wp2_with (go_at_call 31; with_reducible refine (spec_any o1.reads).mono ?_)
  rintro _ w2 ⟨v2, rfl, o2, hb2⟩
  have B2 : Below w.heap.size w w2 := B1.trans (hb2.mono B1.size)
  have l2 := o2.1
  go_wp2_with (go_at_call 32; with_reducible refine (toInt64S_any (hr0.step B2)).mono ?_)
  rintro _ w3 ⟨v3, rfl, o3, hb3⟩
  have B3 : Below w.heap.size w w3 := B2.trans (hb3.mono B2.size)
  go_wp2_with (go_at_call 33; with_reducible refine (impl_any o3.reads).mono ?_)
  rintro _ w4 ⟨v4, rfl, o4, hb4⟩
  have B4 : Below w.heap.size w w4 := B3.trans (hb4.mono B3.size)
  have l4 := o4.1
  go_wp2_with (go_at_call 15; with_reducible refine (eqInt64S_same o4.reads ((o2.step hb3).step hb4).reads).mono ?_)
  rintro _ w5 ⟨rfl, hb5⟩
  have B5 : Below w.heap.size w w5 := B4.trans (hb5.mono B4.size)
  go_wp2_with (go_at_call 32; with_reducible refine (toInt64S_any (hr0.step B5)).mono ?_)
  rintro _ w6 ⟨v6, rfl, o6, hb6⟩
  have B6 : Below w.heap.size w w6 := B5.trans (hb6.mono B5.size)
  go_wp2_with (go_at_call 15; with_reducible refine (eqInt64S_same (((o3.step hb4).step hb5).step hb6).reads o6.reads).mono ?_)
  rintro _ w7 ⟨rfl, hb7⟩
  have B7 : Below w.heap.size w w7 := B6.trans (hb7.mono B6.size)
  go_wp2_with (go_at_call 16; with_reducible refine (markInt64S_any _ (by omega) (by omega) ((((o3.step hb4).step hb5).step hb6).step hb7)).mono ?_)
  rintro _ w8 ⟨rfl, o8, hg8⟩
  have B8 : Below w.heap.size w w8 := B7.grown hg8 B7.size (fun k hk => by have := (o3.lt k hk).1; have := B2.size; omega)
  go_wp2_with (go_at_call 15; with_reducible refine (eqInt64S_same ((((o4.step hb5).step hb6).step hb7).kept hg8 (own_apart o3 o4)).reads ((((((o2.step hb3).step hb4).step hb5).step hb6).step hb7).kept hg8 (own_apart' o2 o3)).reads).mono ?_)
  rintro _ w9 ⟨rfl, hb9⟩
  have B9 : Below w.heap.size w w9 := B8.trans (hb9.mono B8.size)
  go_wp2_with (go_at_call 16; with_reducible refine (markInt64S_any _ (by omega) (by omega) (((((o4.step hb5).step hb6).step hb7).kept hg8 (own_apart o3 o4)).step hb9)).mono ?_)
  rintro _ w10 ⟨rfl, o10, hg10⟩
  have B10 : Below w.heap.size w w10 := B9.grown hg10 B9.size (fun k hk => by have := (o4.lt k hk).1; have := B3.size; omega)
  go_wp2_with (go_at_call 17; with_reducible refine (heldInt64S_any _ (by omega) (by omega) o10.reads).mono ?_)
  rintro _ _ ⟨rfl, rfl⟩
  go_wp2_with (go_at_call 32; with_reducible refine (toInt64S_any (hr0.step B10)).mono ?_)
  rintro _ w11 ⟨v11, rfl, o11, hb11⟩
  have B11 : Below w.heap.size w w11 := B10.trans (hb11.mono B10.size)
  go_wp2_with (go_at_call 33; with_reducible refine (impl_any o11.reads).mono ?_)
  rintro _ w12 ⟨v12, rfl, o12, hb12⟩
  have B12 : Below w.heap.size w w12 := B11.trans (hb12.mono B11.size)
  have l12 := o12.1
  go_wp2_with (go_at_call 15; with_reducible refine (eqInt64S_same o12.reads ((((((((((o2.step hb3).step hb4).step hb5).step hb6).step hb7).kept hg8 (own_apart' o2 o3)).step hb9).kept hg10 (own_apart' (o2.step hb3) o4)).step hb11).step hb12).reads).mono ?_)
  rintro _ w13 ⟨rfl, hb13⟩
  have B13 : Below w.heap.size w w13 := B12.trans (hb13.mono B12.size)
  go_wp2_with (go_at_call 17; with_reducible refine (heldInt64S_any _ (by omega) (by omega) (((o10.step hb11).step hb12).step hb13).reads).mono ?_)
  rintro _ _ ⟨rfl, rfl⟩
  go_wp2
  go_ret
  exact ⟨rfl, B13⟩

theorem own : ownKnob Try.prog.godebug = none := by kernel_rfl
theorem laidOut : laidOutB Try.prog = true := by kernel_rfl

set_option maxRecDepth 100000 in
theorem lifted (os : Os) (started : os.Started) (H : Type) (enc : TypeId × Value → H) :
    ReturnsInHanded {} Try.checked os 6 .any (Rows.fnExactCycleTypeSpec.pre6 enc Try.prog Try.f6 Rows.fnExactCycleTypeRow.domain false) (Rows.fnExactCycleTypeSpec.post enc Try.prog Try.f6 false true false false) := by
  refine returnsInHanded_of_change (C := Try.checked) own started (by kernel_rfl) Try.func6
    (ChangeSpec.witness6 (enc := enc) (C := Try.checked) false ⟨#[], #[.slice none 0 0], []⟩ 8 (by kernel_rfl) (by kernel_rfl) (by kernel_rfl) (by kernel_rfl)) ?_
  intro W base args ds gs before hval0 hW hcnd _
  have hval : ∀ (j : Nat) t v, Try.f6.params[j]? = some t → args[j]? = some v → Value.okWide Try.prog W .any base t v := hval0
  have hW' := hW
  obtain ⟨p, q, hA0, hV, rfl, hfz, hnd⟩ := hW
  have hA : DataW.TrodAll enc Try.prog W 0 (fun _ => true) true Try.f6.params.toList args.toList ds p := hA0
  rw [Try.params6] at hA hval
  obtain ⟨v0, vs0, d0, ds0, p0, q0, hargs, rfl, rfl, h0, r0⟩ := trodAll_cons hA
  obtain ⟨rfl, rfl, rfl⟩ := trodAll_nil r0
  obtain rfl : args = #[v0] := by cases args; simp_all
  obtain ⟨rfl, rfl⟩ := trodVars_none hV
  have k0 := h0
  have lt0 : ∀ x ∈ p0, x.block < W.heap.size := by obtain ⟨m, hm⟩ := k0; exact DataW.trod_lt m _ _ _ hm
  obtain ⟨a0, len0, cap0, rfl⟩ := okWide_slice Try.underlying22 (hval 0 22 v0 rfl rfl)
  obtain ⟨z0, w0⟩ : ∃ zs, IsRow .i64 W a0 len0 cap0 zs := by
    obtain ⟨fuel, hf⟩ := h0
    rcases open_ints Try.underlying22 Try.underlying2 (by kernel_rfl) hf with ⟨hcs, _⟩ | ⟨x, l, c, zs, hcs, _, hl, hm, hz, _, hcell, hwz⟩
    · simp [Value.cells] at hcs
      obtain ⟨rfl, rfl, rfl⟩ := hcs
      exact ⟨[], .inl ⟨rfl, rfl, rfl, rfl⟩⟩
    · simp [Value.cells] at hcs
      obtain ⟨rfl, rfl, rfl⟩ := hcs
      exact ⟨zs, .inr ⟨_, rfl, hl, hm, by simpa using hz, hcell, hwz⟩⟩
  clear hA0 hval0
  refine (walk a0 len0 cap0 z0 W w0).mono fun e W' ⟨he, bel⟩ => ?_
  subst he
  exact ⟨_, rfl, _, _, _, [], _, [], hW', trodAll_mk1 (shut_bool Try.underlying4 _), (trodAll_cons_mk (Below.trod laidOut (by kernel_rfl) (of_decide_eq_true (by kernel_rfl)) k0 bel lt0) trodAll_mk0), rfl, bel.frame _, fun h => by cases h⟩

theorem over : Rows.fnExactCycleTypeRow.holds Try.pinned (OpenSpec.ofChange Rows.fnExactCycleTypeSpec) :=
  OpenClaim.holds_of_wide 6 Try.f6 rfl rfl rfl rfl rfl rfl rfl ⟨rfl, rfl, rfl, rfl, rfl⟩ rfl rfl rfl rfl rfl (by kernel_rfl) Try.func6 (by kernel_rfl)
    (of_decide_eq_true (by kernel_rfl)) (by unfold Func.isWrapper; first | (rw [if_pos (by decide +kernel)]; kernel_rfl) | (rw [if_neg (by decide +kernel)]; exact ⟨rfl, rfl⟩))
    (fun os started H enc _ => lifted os started H enc)

theorem proved : Rows.FnExactCycleTypeSaid := over
#print axioms proved
end Go.Proofs.Ytlndfjplhfgicaa.cycleTypeLaw
