/- 'laws.FnExactDivideModular' returns true for all arguments: the program's DivideModular and the reference's give the same. Conditions: none. -/
import Derived.Test.YthepcmppibibfaaRows
import Derived.WalkKit
import Derived.ProofKit
import Derived.OpenShut
import Derived.ShutString
import Derived.ChangeOld
import Derived.Below
import Derived.Lib.SmallJoins
import Derived.Test.YthepcmppibibfaaOk
namespace Go.Proofs.Ythepcmppibibfaa.divideModular
open Go.ChangeShapes Go.WideShapes Go.ChangeAt Go.RowKit
open Go.ChangeMaps (open_string shut_string)
set_option linter.unusedVariables false
set_option linter.unusedSimpArgs false

set_option maxHeartbeats 4000000 in
set_option maxRecDepth 100000 in
theorem walk (a0 : Int) (a1 : Option Addr) (len1 cap1 : Nat) (z1 : List Int) (a2 : Option Addr) (len2 cap2 : Nat) (z2 : List Int) (w : World) (ha0 : -9223372036854775808 ≤ a0 ∧ a0 ≤ 9223372036854775807) (ha1 : IsRow .i64 w a1 len1 cap1 z1) (ha2 : IsRow .i64 w a2 len2 cap2 z2) :
    Calls Try.prog 6 #[.int .i64 a0, .slice a1 len1 cap1, .slice a2 len2 cap2] w fun e w' => e = .returned (.bool true) ∧ Below w.heap.size w w' := by
  by_cases hbig1 : len1 ≤ 1048576
  case neg =>
    go_enter Try.func6, Try.ntmps6
    go_wp2
    go_ret
    exact ⟨rfl, Below.refl _ _⟩
  by_cases hbig2 : len2 ≤ 1048576
  case neg =>
    go_enter Try.func6, Try.ntmps6
    go_wp2
    go_ret
    exact ⟨rfl, Below.refl _ _⟩
  obtain ⟨Z1, rfl, hzb1, hr1⟩ := ha1.reads hbig1
  clear ha1
  obtain ⟨Z2, rfl, hzb2, hr2⟩ := ha2.reads hbig2
  clear ha2
  have B0 : Below w.heap.size w w := Below.refl _ _
  go_enter Try.func6, Try.ntmps6
  go_wp2_with (go_at_call 17; with_reducible refine (toInt64S_any hr1).mono ?_)
  rintro _ w1 ⟨v1, rfl, o1, hb1⟩
  have B1 : Below w.heap.size w w1 := B0.trans (hb1.mono B0.size)
  go_wp2_with (go_at_call 17; with_reducible refine (toInt64S_any (hr2.step B1)).mono ?_)
  rintro _ w2 ⟨v2, rfl, o2, hb2⟩
  have B2 : Below w.heap.size w w2 := B1.trans (hb2.mono B1.size)
  go_wp2_with (go_at_call 26; with_reducible refine (sDivideModular_any (o1.step hb2).reads o2.reads).mono ?_)
  rintro _ w4 ⟨v3, v4, w3, rfl, l3, l4, o3, hb3, o4, hb4⟩
  have B3 : Below w.heap.size w w3 := B2.trans (hb3.mono B2.size)
  have B4 : Below w.heap.size w w4 := B3.trans (hb4.mono B3.size)
  go_wp2_with (go_at_call 17; with_reducible refine (toInt64S_any (hr1.step B4)).mono ?_)
  rintro _ w5 ⟨v5, rfl, o5, hb5⟩
  have B5 : Below w.heap.size w w5 := B4.trans (hb5.mono B4.size)
  go_wp2_with (go_at_call 17; with_reducible refine (toInt64S_any (hr2.step B5)).mono ?_)
  rintro _ w6 ⟨v6, rfl, o6, hb6⟩
  have B6 : Below w.heap.size w w6 := B5.trans (hb6.mono B5.size)
  go_wp2_with (go_at_call 27; with_reducible refine (DivideModular_any (o5.step hb6).reads o6.reads).mono ?_)
  rintro _ w8 ⟨v7, v8, w7, rfl, l7, l8, o7, hb7, o8, hb8⟩
  have B7 : Below w.heap.size w w7 := B6.trans (hb7.mono B6.size)
  have B8 : Below w.heap.size w w8 := B7.trans (hb8.mono B7.size)
  go_wp2_with (go_at_call 19; with_reducible refine (eqInt64S_same (o7.step hb8).reads (((((o3.step hb4).step hb5).step hb6).step hb7).step hb8).reads).mono ?_)
  rintro _ w9 ⟨rfl, hb9⟩
  have B9 : Below w.heap.size w w9 := B8.trans (hb9.mono B8.size)
  go_wp2_with (go_at_call 19; with_reducible refine (eqInt64S_same (o8.step hb9).reads (((((o4.step hb5).step hb6).step hb7).step hb8).step hb9).reads).mono ?_)
  rintro _ w10 ⟨rfl, hb10⟩
  have B10 : Below w.heap.size w w10 := B9.trans (hb10.mono B9.size)
  go_wp2_with (go_at_call 17; with_reducible refine (toInt64S_any (hr1.step B10)).mono ?_)
  rintro _ w11 ⟨v11, rfl, o11, hb11⟩
  have B11 : Below w.heap.size w w11 := B10.trans (hb11.mono B10.size)
  go_wp2_with (go_at_call 19; with_reducible refine (eqInt64S_same ((((((o5.step hb6).step hb7).step hb8).step hb9).step hb10).step hb11).reads o11.reads).mono ?_)
  rintro _ w12 ⟨rfl, hb12⟩
  have B12 : Below w.heap.size w w12 := B11.trans (hb12.mono B11.size)
  go_wp2_with (go_at_call 17; with_reducible refine (toInt64S_any (hr2.step B12)).mono ?_)
  rintro _ w13 ⟨v13, rfl, o13, hb13⟩
  have B13 : Below w.heap.size w w13 := B12.trans (hb13.mono B12.size)
  go_wp2_with (go_at_call 19; with_reducible refine (eqInt64S_same (((((((o6.step hb7).step hb8).step hb9).step hb10).step hb11).step hb12).step hb13).reads o13.reads).mono ?_)
  rintro _ w14 ⟨rfl, hb14⟩
  have B14 : Below w.heap.size w w14 := B13.trans (hb14.mono B13.size)
  go_wp2_with (go_at_call 22; with_reducible refine (markInt64S_any _ (by omega) (by omega) (((((((((o5.step hb6).step hb7).step hb8).step hb9).step hb10).step hb11).step hb12).step hb13).step hb14)).mono ?_)
  rintro _ w15 ⟨rfl, o15, hg15⟩
  have B15 : Below w.heap.size w w15 := B14.grown hg15 B14.size (fun k hk => by have := (o5.lt k hk).1; have := B4.size; omega)
  go_wp2_with (go_at_call 22; with_reducible refine (markInt64S_any _ (by omega) (by omega) (((((((((o6.step hb7).step hb8).step hb9).step hb10).step hb11).step hb12).step hb13).step hb14).kept hg15 (own_apart o5 o6))).mono ?_)
  rintro _ w16 ⟨rfl, o16, hg16⟩
  have B16 : Below w.heap.size w w16 := B15.grown hg16 B15.size (fun k hk => by have := (o6.lt k hk).1; have := B5.size; omega)
  go_wp2_with (go_at_call 19; with_reducible refine (eqInt64S_same (((((((((o7.step hb8).step hb9).step hb10).step hb11).step hb12).step hb13).step hb14).kept hg15 (own_apart (o5.step hb6) o7)).kept hg16 (own_apart o6 o7)).reads (((((((((((((o3.step hb4).step hb5).step hb6).step hb7).step hb8).step hb9).step hb10).step hb11).step hb12).step hb13).step hb14).kept hg15 (own_apart' (o3.step hb4) o5)).kept hg16 (own_apart' ((o3.step hb4).step hb5) o6)).reads).mono ?_)
  rintro _ w17 ⟨rfl, hb17⟩
  have B17 : Below w.heap.size w w17 := B16.trans (hb17.mono B16.size)
  go_wp2_with (go_at_call 19; with_reducible refine (eqInt64S_same (((((((((o8.step hb9).step hb10).step hb11).step hb12).step hb13).step hb14).kept hg15 (own_apart ((o5.step hb6).step hb7) o8)).kept hg16 (own_apart (o6.step hb7) o8)).step hb17).reads (((((((((((((o4.step hb5).step hb6).step hb7).step hb8).step hb9).step hb10).step hb11).step hb12).step hb13).step hb14).kept hg15 (own_apart' o4 o5)).kept hg16 (own_apart' (o4.step hb5) o6)).step hb17).reads).mono ?_)
  rintro _ w18 ⟨rfl, hb18⟩
  have B18 : Below w.heap.size w w18 := B17.trans (hb18.mono B17.size)
  go_wp2_with (go_at_call 22; with_reducible refine (markInt64S_any _ (by omega) (by omega) (((((((((((o7.step hb8).step hb9).step hb10).step hb11).step hb12).step hb13).step hb14).kept hg15 (own_apart (o5.step hb6) o7)).kept hg16 (own_apart o6 o7)).step hb17).step hb18)).mono ?_)
  rintro _ w19 ⟨rfl, o19, hg19⟩
  have B19 : Below w.heap.size w w19 := B18.grown hg19 B18.size (fun k hk => by have := (o7.lt k hk).1; have := B6.size; omega)
  go_wp2_with (go_at_call 22; with_reducible refine (markInt64S_any _ (by omega) (by omega) (((((((((((o8.step hb9).step hb10).step hb11).step hb12).step hb13).step hb14).kept hg15 (own_apart ((o5.step hb6).step hb7) o8)).kept hg16 (own_apart (o6.step hb7) o8)).step hb17).step hb18).kept hg19 (own_apart o7 o8))).mono ?_)
  rintro _ w20 ⟨rfl, o20, hg20⟩
  have B20 : Below w.heap.size w w20 := B19.grown hg20 B19.size (fun k hk => by have := (o8.lt k hk).1; have := B7.size; omega)
  go_wp2_with (go_at_call 23; with_reducible refine (heldInt64S_any _ (by omega) (by omega) (o19.kept hg20 (own_apart' o7 o8)).reads).mono ?_)
  rintro _ _ ⟨rfl, rfl⟩
  go_wp2_with (go_at_call 23; with_reducible refine (heldInt64S_any _ (by omega) (by omega) o20.reads).mono ?_)
  rintro _ _ ⟨rfl, rfl⟩
  go_wp2_with (go_at_call 17; with_reducible refine (toInt64S_any (hr1.step B20)).mono ?_)
  rintro _ w21 ⟨v21, rfl, o21, hb21⟩
  have B21 : Below w.heap.size w w21 := B20.trans (hb21.mono B20.size)
  go_wp2_with (go_at_call 17; with_reducible refine (toInt64S_any (hr2.step B21)).mono ?_)
  rintro _ w22 ⟨v22, rfl, o22, hb22⟩
  have B22 : Below w.heap.size w w22 := B21.trans (hb22.mono B21.size)
  go_wp2_with (go_at_call 27; with_reducible refine (DivideModular_any (o21.step hb22).reads o22.reads).mono ?_)
  rintro _ w24 ⟨v23, v24, w23, rfl, l23, l24, o23, hb23, o24, hb24⟩
  have B23 : Below w.heap.size w w23 := B22.trans (hb23.mono B22.size)
  have B24 : Below w.heap.size w w24 := B23.trans (hb24.mono B23.size)
  go_wp2_with (go_at_call 19; with_reducible refine (eqInt64S_same (o23.step hb24).reads (((((((((((((((((((((o3.step hb4).step hb5).step hb6).step hb7).step hb8).step hb9).step hb10).step hb11).step hb12).step hb13).step hb14).kept hg15 (own_apart' (o3.step hb4) o5)).kept hg16 (own_apart' ((o3.step hb4).step hb5) o6)).step hb17).step hb18).kept hg19 (own_apart' (((o3.step hb4).step hb5).step hb6) o7)).kept hg20 (own_apart' ((((o3.step hb4).step hb5).step hb6).step hb7) o8)).step hb21).step hb22).step hb23).step hb24).reads).mono ?_)
  rintro _ w25 ⟨rfl, hb25⟩
  have B25 : Below w.heap.size w w25 := B24.trans (hb25.mono B24.size)
  go_wp2_with (go_at_call 19; with_reducible refine (eqInt64S_same (o24.step hb25).reads (((((((((((((((((((((o4.step hb5).step hb6).step hb7).step hb8).step hb9).step hb10).step hb11).step hb12).step hb13).step hb14).kept hg15 (own_apart' o4 o5)).kept hg16 (own_apart' (o4.step hb5) o6)).step hb17).step hb18).kept hg19 (own_apart' ((o4.step hb5).step hb6) o7)).kept hg20 (own_apart' (((o4.step hb5).step hb6).step hb7) o8)).step hb21).step hb22).step hb23).step hb24).step hb25).reads).mono ?_)
  rintro _ w26 ⟨rfl, hb26⟩
  have B26 : Below w.heap.size w w26 := B25.trans (hb26.mono B25.size)
  go_wp2_with (go_at_call 23; with_reducible refine (heldInt64S_any _ (by omega) (by omega) (((((((o19.kept hg20 (own_apart' o7 o8)).step hb21).step hb22).step hb23).step hb24).step hb25).step hb26).reads).mono ?_)
  rintro _ _ ⟨rfl, rfl⟩
  go_wp2_with (go_at_call 23; with_reducible refine (heldInt64S_any _ (by omega) (by omega) ((((((o20.step hb21).step hb22).step hb23).step hb24).step hb25).step hb26).reads).mono ?_)
  rintro _ _ ⟨rfl, rfl⟩
  go_wp2
  go_ret
  exact ⟨rfl, B26⟩

theorem own : ownKnob Try.prog.godebug = none := by kernel_rfl
theorem laidOut : laidOutB Try.prog = true := by kernel_rfl

set_option maxRecDepth 100000 in
theorem lifted (os : Os) (started : os.Started) (H : Type) (enc : TypeId × Value → H) :
    ReturnsInHanded {} Try.checked os 6 .any (Rows.fnExactDivideModularSpec.pre6 enc Try.prog Try.f6 Rows.fnExactDivideModularRow.domain false) (Rows.fnExactDivideModularSpec.post enc Try.prog Try.f6 false true false false) := by
  refine returnsInHanded_of_change (C := Try.checked) own started (by kernel_rfl) Try.func6
    (ChangeSpec.witness6 (enc := enc) (C := Try.checked) false ⟨#[], #[.int .i64 0, .slice none 0 0, .slice none 0 0], []⟩ 8 (by kernel_rfl) (by kernel_rfl) (by kernel_rfl) (by kernel_rfl)) ?_
  intro W base args ds gs before hval0 hW hcnd _
  have hval : ∀ (j : Nat) t v, Try.f6.params[j]? = some t → args[j]? = some v → Value.okWide Try.prog W .any base t v := hval0
  have hW' := hW
  obtain ⟨p, q, hA0, hV, rfl, hfz, hnd⟩ := hW
  have hA : DataW.TrodAll enc Try.prog W 0 (fun _ => true) true Try.f6.params.toList args.toList ds p := hA0
  rw [Try.params6] at hA hval
  obtain ⟨v0, vs0, d0, ds0, p0, q0, hargs, rfl, rfl, h0, r0⟩ := trodAll_cons hA
  obtain ⟨v1, vs1, d1, ds1, p1, q1, rfl, rfl, rfl, h1, r1⟩ := trodAll_cons r0
  obtain ⟨v2, vs2, d2, ds2, p2, q2, rfl, rfl, rfl, h2, r2⟩ := trodAll_cons r1
  obtain ⟨rfl, rfl, rfl⟩ := trodAll_nil r2
  obtain rfl : args = #[v0, v1, v2] := by cases args; simp_all
  obtain ⟨rfl, rfl⟩ := trodVars_none hV
  have k0 := h0
  have lt0 : ∀ x ∈ p0, x.block < W.heap.size := by obtain ⟨m, hm⟩ := k0; exact DataW.trod_lt m _ _ _ hm
  obtain ⟨a0, rfl, _, _, wf0⟩ := open_int Try.underlying2 (hval 0 2 v0 rfl rfl) h0
  have k1 := h1
  have lt1 : ∀ x ∈ p1, x.block < W.heap.size := by obtain ⟨m, hm⟩ := k1; exact DataW.trod_lt m _ _ _ hm
  obtain ⟨a1, len1, cap1, rfl⟩ := okWide_slice Try.underlying24 (hval 1 24 v1 rfl rfl)
  obtain ⟨z1, w1⟩ : ∃ zs, IsRow .i64 W a1 len1 cap1 zs := by
    obtain ⟨fuel, hf⟩ := h1
    rcases open_ints Try.underlying24 Try.underlying2 (by kernel_rfl) hf with ⟨hcs, _⟩ | ⟨x, l, c, zs, hcs, _, hl, hm, hz, _, hcell, hwz⟩
    · simp [Value.cells] at hcs
      obtain ⟨rfl, rfl, rfl⟩ := hcs
      exact ⟨[], .inl ⟨rfl, rfl, rfl, rfl⟩⟩
    · simp [Value.cells] at hcs
      obtain ⟨rfl, rfl, rfl⟩ := hcs
      exact ⟨zs, .inr ⟨_, rfl, hl, hm, by simpa using hz, hcell, hwz⟩⟩
  have k2 := h2
  have lt2 : ∀ x ∈ p2, x.block < W.heap.size := by obtain ⟨m, hm⟩ := k2; exact DataW.trod_lt m _ _ _ hm
  obtain ⟨a2, len2, cap2, rfl⟩ := okWide_slice Try.underlying24 (hval 2 24 v2 rfl rfl)
  obtain ⟨z2, w2⟩ : ∃ zs, IsRow .i64 W a2 len2 cap2 zs := by
    obtain ⟨fuel, hf⟩ := h2
    rcases open_ints Try.underlying24 Try.underlying2 (by kernel_rfl) hf with ⟨hcs, _⟩ | ⟨x, l, c, zs, hcs, _, hl, hm, hz, _, hcell, hwz⟩
    · simp [Value.cells] at hcs
      obtain ⟨rfl, rfl, rfl⟩ := hcs
      exact ⟨[], .inl ⟨rfl, rfl, rfl, rfl⟩⟩
    · simp [Value.cells] at hcs
      obtain ⟨rfl, rfl, rfl⟩ := hcs
      exact ⟨zs, .inr ⟨_, rfl, hl, hm, by simpa using hz, hcell, hwz⟩⟩
  clear hA0 hval0
  refine (walk a0 a1 len1 cap1 z1 a2 len2 cap2 z2 W (bounds_i64 wf0) w1 w2).mono fun e W' ⟨he, bel⟩ => ?_
  subst he
  exact ⟨_, rfl, _, _, _, [], _, [], hW', trodAll_mk1 (shut_bool Try.underlying4 _), (trodAll_cons_mk (Below.trod laidOut (by kernel_rfl) (of_decide_eq_true (by kernel_rfl)) k0 bel lt0) (trodAll_cons_mk (Below.trod laidOut (by kernel_rfl) (of_decide_eq_true (by kernel_rfl)) k1 bel lt1) (trodAll_cons_mk (Below.trod laidOut (by kernel_rfl) (of_decide_eq_true (by kernel_rfl)) k2 bel lt2) trodAll_mk0))), rfl, bel.frame _, fun h => by cases h⟩

theorem over : Rows.fnExactDivideModularRow.holds Try.pinned (OpenSpec.ofChange Rows.fnExactDivideModularSpec) :=
  OpenClaim.holds_of_wide 6 Try.f6 rfl rfl rfl rfl rfl rfl rfl ⟨rfl, rfl, rfl, rfl, rfl⟩ rfl rfl rfl rfl rfl (by kernel_rfl) Try.func6 (by kernel_rfl)
    (of_decide_eq_true (by kernel_rfl)) (by unfold Func.isWrapper; first | (rw [if_pos (by decide +kernel)]; kernel_rfl) | (rw [if_neg (by decide +kernel)]; exact ⟨rfl, rfl⟩))
    (fun os started H enc _ => lifted os started H enc)

theorem proved : Rows.FnExactDivideModularSaid := over
#print axioms proved
end Go.Proofs.Ythepcmppibibfaa.divideModular
