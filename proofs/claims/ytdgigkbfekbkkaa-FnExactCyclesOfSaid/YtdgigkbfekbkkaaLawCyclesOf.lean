/- 'laws.FnExactCyclesOf' returns true for all arguments: the program's CyclesOf and the reference's give the same. Conditions: none. -/
import Derived.Test.YtdgigkbfekbkkaaRows
import Derived.WalkKit
import Derived.ProofKit
import Derived.OpenShut
import Derived.ShutString
import Derived.ChangeOld
import Derived.Below
import Derived.Lib.SmallJoins
import Derived.Test.YtdgigkbfekbkkaaX
import Derived.Test.YtdgigkbfekbkkaaY
namespace Go.Proofs.Ytdgigkbfekbkkaa.cyclesOf
open Go.ChangeShapes Go.WideShapes Go.ChangeAt Go.RowKit
open Go.ChangeMaps (open_string shut_string)
set_option linter.unusedVariables false
set_option linter.unusedSimpArgs false

def out (zs : List Int) : List (List Int) := if permB zs then cycL zs else []
def code (zs : List Int) : Int := if permB zs then 0 else 1
theorem out_bd (zs : List Int) : (out zs).length ≤ 6 ∧ pre (out zs) (out zs).length ≤ 36 := by
  unfold out
  by_cases h : permB zs = true
  · rw [if_pos h]
    exact cycL_bd h
  · rw [if_neg h]; simp [pre]
theorem step_size {w w' : World} (h : Below w.heap.size w w') : w.heap.size ≤ w'.heap.size := h.size
set_option maxHeartbeats 1000000 in
theorem spec_any {v : Value} {zs : List Int} {w : World} (h : Reads w v zs) : Calls Try.prog 28 #[v] w (RetLLC (out zs) (code zs) w) := by
  have HR := Lib.hid h
  rcases Bool.eq_false_or_eq_true (permB zs) with hp | hp
  · have HP := Lib.hid hp; clear hp h
    go_enter Try.func28, Try.ntmps28
    go_wp2_with (go_at_call 12; with_reducible refine (calls_bool (sIsPermutation_any HR.out) HP.out).mono ?_)
    rintro _ w1 ⟨rfl, hb1⟩
    go_wp2_with (go_at_call 57; with_reducible refine (l21Cycles_any (HR.out.step hb1) HP.out).mono ?_)
    rintro _ w2 ⟨v2, rfl, o2, hb2⟩
    go_wp2
    go_ret2
    exact ⟨v2, by simp [code, HP.out], by simpa [out, HP.out] using o2.down hb1.size, hb1.trans (hb2.mono hb1.size)⟩
  · have HP := Lib.hid hp; clear hp h
    go_enter Try.func28, Try.ntmps28
    go_wp2_with (go_at_call 12; with_reducible refine (calls_bool (sIsPermutation_any HR.out) HP.out).mono ?_)
    rintro _ w1 ⟨rfl, hb1⟩
    go_wp2
    go_ret2
    exact ⟨.slice none 0 0, by simp [code, HP.out], by simpa [out, HP.out] using ll_nil, hb1⟩
set_option maxHeartbeats 1000000 in
theorem impl_any {v : Value} {zs : List Int} {w : World} (h : Reads w v zs) : Calls Try.prog 29 #[v] w (RetLLC (out zs) (code zs) w) := by
  have HR := Lib.hid h
  rcases Bool.eq_false_or_eq_true (permB zs) with hp | hp
  · have HP := Lib.hid hp; clear hp h
    go_enter Try.func29, Try.ntmps29
    go_wp2_with (go_at_call 14; with_reducible refine (calls_bool (IsPermutation_any HR.out) HP.out).mono ?_)
    rintro _ _ ⟨rfl, rfl⟩
    go_wp2_with (go_at_call 58; with_reducible refine (cycles_any HR.out HP.out).mono ?_)
    rintro _ w2 ⟨v2, rfl, o2, hb2⟩
    go_wp2
    go_ret2
    exact ⟨v2, by simp [code, HP.out], by simpa [out, HP.out] using o2, hb2⟩
  · have HP := Lib.hid hp; clear hp h
    go_enter Try.func29, Try.ntmps29
    go_wp2_with (go_at_call 14; with_reducible refine (calls_bool (IsPermutation_any HR.out) HP.out).mono ?_)
    rintro _ _ ⟨rfl, rfl⟩
    go_wp2
    go_ret2
    exact ⟨.slice none 0 0, by simp [code, HP.out], by simpa [out, HP.out] using ll_nil, Below.refl _ _⟩

set_option maxHeartbeats 4000000 in
theorem walk (a0 : Option Addr) (len0 cap0 : Nat) (z0 : List Int) (w : World) (ha0 : IsRow .i64 w a0 len0 cap0 z0) :
    Calls Try.prog 9 #[.slice a0 len0 cap0] w fun e w' => e = .returned (.bool true) ∧ Below w.heap.size w w' := by
  by_cases hbig0 : len0 ≤ 1048576
  case neg =>
    go_enter Try.func9, Try.ntmps9
    go_wp2
    go_ret
    exact ⟨rfl, Below.refl _ _⟩
  obtain ⟨Z0, rfl, hzb0, hr0⟩ := ha0.reads hbig0
  clear ha0
  obtain ⟨hn1, hn2⟩ := out_bd Z0
  have B0 : Below w.heap.size w w := Below.refl _ _
  go_enter Try.func9, Try.ntmps9
  go_wp2_with (go_at_call 13; with_reducible refine (toInt64S_any hr0).mono ?_)
  rintro _ w1 ⟨v1, rfl, o1, hb1⟩
  have B1 : Below w.heap.size w w1 := B0.trans (hb1.mono B0.size)
  go_wp2_with (go_at_call 28; with_reducible refine (spec_any o1.reads).mono ?_)
  rintro _ w2 ⟨y, rfl, y2, hb2⟩
  have B2 : Below w.heap.size w w2 := B1.trans (hb2.mono B1.size)
  go_wp2_with (go_at_call 13; with_reducible refine (toInt64S_any (hr0.step B2)).mono ?_)
  rintro _ w3 ⟨x, rfl, o3, hb3⟩
  have B3 : Below w.heap.size w w3 := B2.trans (hb3.mono B2.size)
  go_wp2_with (go_at_call 29; with_reducible refine (impl_any o3.reads).mono ?_)
  rintro _ w4 ⟨g, rfl, g4, hb4⟩
  have B4 : Below w.heap.size w w4 := B3.trans (hb4.mono B3.size)
  go_wp2_with (go_at_call 30; with_reducible refine (eqInt64SS_same g4 ((y2.step hb3).step hb4) (by omega)).mono ?_)
  rintro _ w5 ⟨rfl, hb5⟩
  have B5 : Below w.heap.size w w5 := B4.trans (hb5.mono B4.size)
  go_wp2_with (go_at_call 13; with_reducible refine (toInt64S_any (hr0.step B5)).mono ?_)
  rintro _ w6 ⟨t6, rfl, o6, hb6⟩
  have B6 : Below w.heap.size w w6 := B5.trans (hb6.mono B5.size)
  go_wp2_with (go_at_call 15; with_reducible refine (eqInt64S_same (((o3.step hb4).step hb5).step hb6).reads o6.reads).mono ?_)
  rintro _ w7 ⟨rfl, hb7⟩
  have B7 : Below w.heap.size w w7 := B6.trans (hb7.mono B6.size)
  go_wp2_with (go_at_call 20; with_reducible refine (markInt64S_any _ (by omega) (by omega) ((((o3.step hb4).step hb5).step hb6).step hb7)).mono ?_)
  rintro _ w8 ⟨rfl, o8, hg8⟩
  have B8 : Below w.heap.size w w8 := B7.grown hg8 B7.size (fun k hk => by have := (o3.lt k hk).1; have := B2.size; omega)
  have Y8 := (((((y2.step hb3).step hb4).step hb5).step hb6).step hb7).keptG hg8 (fun k hk => .inr (o3.lt k hk).1)
  have G8 := (((g4.step hb5).step hb6).step hb7).keptG hg8 (fun k hk => .inl (o3.lt k hk).2)
  go_wp2_with (go_at_call 30; with_reducible refine (eqInt64SS_same G8 Y8 (by omega)).mono ?_)
  rintro _ w9 ⟨rfl, hb9⟩
  have B9 : Below w.heap.size w w9 := B8.trans (hb9.mono B8.size)
  go_wp2_with (go_at_call 31; with_reducible refine (markInt64SS_any _ (by omega) (by omega) (by omega) (G8.step hb9)).mono ?_)
  rintro _ w10 ⟨rfl, g10, ht10⟩
  have B10 : Below w.heap.size w w10 := B9.trans (ht10.below B3.size B9.size)
  have Y10 := (Y8.step hb9).touch ht10 (.inl hb3.size)
  go_wp2_with (go_at_call 32; with_reducible refine (heldInt64SS_any _ (by omega) (by omega) (by omega) g10).mono ?_)
  rintro _ _ ⟨rfl, rfl⟩
  go_wp2_with (go_at_call 13; with_reducible refine (toInt64S_any (hr0.step B10)).mono ?_)
  rintro _ w11 ⟨t11, rfl, o11, hb11⟩
  have B11 : Below w.heap.size w w11 := B10.trans (hb11.mono B10.size)
  go_wp2_with (go_at_call 29; with_reducible refine (impl_any o11.reads).mono ?_)
  rintro _ w12 ⟨h, rfl, h12, hb12⟩
  have B12 : Below w.heap.size w w12 := B11.trans (hb12.mono B11.size)
  go_wp2_with (go_at_call 30; with_reducible refine (eqInt64SS_same h12 ((Y10.step hb11).step hb12) (by omega)).mono ?_)
  rintro _ w13 ⟨rfl, hb13⟩
  have B13 : Below w.heap.size w w13 := B12.trans (hb13.mono B12.size)
  go_wp2_with (go_at_call 32; with_reducible refine (heldInt64SS_any _ (by omega) (by omega) (by omega) (((g10.step hb11).step hb12).step hb13)).mono ?_)
  rintro _ _ ⟨rfl, rfl⟩
  go_wp2
  go_ret
  exact ⟨rfl, B13⟩

theorem own : ownKnob Try.prog.godebug = none := by kernel_rfl
theorem laidOut : laidOutB Try.prog = true := by kernel_rfl

set_option maxRecDepth 100000 in
theorem lifted (os : Os) (started : os.Started) (H : Type) (enc : TypeId × Value → H) :
    ReturnsInHanded {} Try.checked os 9 .any (Rows.fnExactCyclesOfSpec.pre6 enc Try.prog Try.f9 Rows.fnExactCyclesOfRow.domain false) (Rows.fnExactCyclesOfSpec.post enc Try.prog Try.f9 false true false false) := by
  refine returnsInHanded_of_change (C := Try.checked) own started (by kernel_rfl) Try.func9
    (ChangeSpec.witness6 (enc := enc) (C := Try.checked) false ⟨#[], #[.slice none 0 0], []⟩ 8 (by kernel_rfl) (by kernel_rfl) (by kernel_rfl) (by kernel_rfl)) ?_
  intro W base args ds gs before hval0 hW hcnd _
  have hval : ∀ (j : Nat) t v, Try.f9.params[j]? = some t → args[j]? = some v → Value.okWide Try.prog W .any base t v := hval0
  have hW' := hW
  obtain ⟨p, q, hA0, hV, rfl, hfz, hnd⟩ := hW
  have hA : DataW.TrodAll enc Try.prog W 0 (fun _ => true) true Try.f9.params.toList args.toList ds p := hA0
  rw [Try.params9] at hA hval
  obtain ⟨v0, vs0, d0, ds0, p0, q0, hargs, rfl, rfl, h0, r0⟩ := trodAll_cons hA
  obtain ⟨rfl, rfl, rfl⟩ := trodAll_nil r0
  obtain rfl : args = #[v0] := by cases args; simp_all
  obtain ⟨rfl, rfl⟩ := trodVars_none hV
  have k0 := h0
  have lt0 : ∀ x ∈ p0, x.block < W.heap.size := by obtain ⟨m, hm⟩ := k0; exact DataW.trod_lt m _ _ _ hm
  obtain ⟨a0, len0, cap0, rfl⟩ := okWide_slice Try.underlying22 (hval 0 22 v0 rfl rfl)
  obtain ⟨z0, w0⟩ : ∃ zs, IsRow .i64 W a0 len0 cap0 zs := by
    obtain ⟨fuel, hf⟩ := h0
    rcases open_ints Try.underlying22 Try.underlying2 (by kernel_rfl) hf with ⟨hcs, _⟩ | ⟨x, l, c, zs, hcs, _, hl, hm, hz, _, hcell, hwz⟩
    · simp [Value.cells] at hcs
      obtain ⟨rfl, rfl, rfl⟩ := hcs
      exact ⟨[], .inl ⟨rfl, rfl, rfl, rfl⟩⟩
    · simp [Value.cells] at hcs
      obtain ⟨rfl, rfl, rfl⟩ := hcs
      exact ⟨zs, .inr ⟨_, rfl, hl, hm, by simpa using hz, hcell, hwz⟩⟩
  clear hA0 hval0
  refine (walk a0 len0 cap0 z0 W w0).mono fun e W' ⟨he, bel⟩ => ?_
  subst he
  exact ⟨_, rfl, _, _, _, [], _, [], hW', trodAll_mk1 (shut_bool Try.underlying4 _), (trodAll_cons_mk (Below.trod laidOut (by kernel_rfl) (of_decide_eq_true (by kernel_rfl)) k0 bel lt0) trodAll_mk0), rfl, bel.frame _, fun h => by cases h⟩

theorem over : Rows.fnExactCyclesOfRow.holds Try.pinned (OpenSpec.ofChange Rows.fnExactCyclesOfSpec) :=
  OpenClaim.holds_of_wide 9 Try.f9 rfl rfl rfl rfl rfl rfl rfl ⟨rfl, rfl, rfl, rfl, rfl⟩ rfl rfl rfl rfl rfl (by kernel_rfl) Try.func9 (by kernel_rfl)
    (of_decide_eq_true (by kernel_rfl)) (by unfold Func.isWrapper; first | (rw [if_pos (by decide +kernel)]; kernel_rfl) | (rw [if_neg (by decide +kernel)]; exact ⟨rfl, rfl⟩))
    (fun os started H enc _ => lifted os started H enc)

theorem proved : Rows.FnExactCyclesOfSaid := over
#print axioms proved
end Go.Proofs.Ytdgigkbfekbkkaa.cyclesOf
