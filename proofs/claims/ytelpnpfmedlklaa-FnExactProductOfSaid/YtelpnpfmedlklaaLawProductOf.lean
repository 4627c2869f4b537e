/- 'laws.FnExactProductOf' returns true for all arguments: the program's ProductOf and the reference's give the same. Conditions: none. -/
import Derived.Test.YtelpnpfmedlklaaRows
import Derived.WalkKit
import Derived.ProofKit
import Derived.OpenShut
import Derived.ShutString
import Derived.ChangeOld
import Derived.Below
import Derived.Lib.SmallJoins
import Derived.Test.YtelpnpfmedlklaaPg
import Derived.Test.YtelpnpfmedlklaaPh
import Derived.Deep.SlicePairs
namespace Go.Proofs.Ytelpnpfmedlklaa.productLaw
open Go.ChangeShapes Go.WideShapes Go.ChangeAt Go.RowKit
open Go.ChangeMaps (open_string shut_string)
set_option linter.unusedVariables false
set_option linter.unusedSimpArgs false

set_option maxHeartbeats 4000000 in
theorem walk (a0 : Int) (v1 : Value) (n1 : Nat) (U1 : Nat → Value) (z1 : List Int) (w : World) (ha0 : -9223372036854775808 ≤ a0 ∧ a0 ≤ 9223372036854775807) (ha1 : ARow w v1 n1 U1 z1) :
    Calls Try.prog 3 #[.int .i64 a0, v1] w fun e w' => e = .returned (.bool true) ∧ Below w.heap.size w w' := by
  go_enter Try.func3, Try.ntmps3
  go_wp2_with (go_at_call 4; with_reducible refine (szFactorS_any ha1).mono ?_)
  rintro _ w1 ⟨q, rfl, B1, hq⟩
  by_cases hneg : q < 0
  · go_wp2
    go_ret
    exact ⟨rfl, B1⟩
  · have hq2 := hq (by omega)
    obtain ⟨zss, hn, hF, hpre, _⟩ := ha1.reads (by omega)
    have HF := Lib.hid hF
    have hpz : pre zss zss.length ≤ 1048576 := by rw [hn, hpre]; omega
    have HP := Lib.hid hpz
    have HB1 := Lib.hid B1
    clear hq hq2 hn hF hpre hpz ha1 B1
    go_wp2_with (go_at_call 6; with_reducible refine (toFactorS_any (HF.out.step HB1.out)).mono ?_)
    rintro _ w2 ⟨v2, rfl, o2, b2⟩
    have HB2 := Lib.hid (HB1.out.trans (b2.mono HB1.out.size))
    go_wp2_with (go_at_call 5; with_reducible refine (sProductOf_any o2.reads).mono ?_)
    rintro _ w3 ⟨v3, rfl, o3, b3⟩
    have HB3 := Lib.hid (HB2.out.trans (b3.mono HB2.out.size))
    go_wp2_with (go_at_call 6; with_reducible refine (toFactorS_any (HF.out.step HB3.out)).mono ?_)
    rintro _ w4 ⟨v4, rfl, o4, b4⟩
    have HB4 := Lib.hid (HB3.out.trans (b4.mono HB3.out.size))
    go_wp2_with (go_at_call 7; with_reducible refine (ProductOf_any o4.reads).mono ?_)
    rintro _ w5 ⟨v5, rfl, o5, b5⟩
    have HB5 := Lib.hid (HB4.out.trans (b5.mono HB4.out.size))
    go_wp2_with (go_at_call 8; with_reducible refine (eqInt64S_same o5.reads ((o3.step b4).step b5).reads).mono ?_)
    rintro _ w6 ⟨rfl, b6⟩
    have HB6 := Lib.hid (HB5.out.trans (b6.mono HB5.out.size))
    go_wp2_with (go_at_call 6; with_reducible refine (toFactorS_any (HF.out.step HB6.out)).mono ?_)
    rintro _ w7 ⟨v7, rfl, o7, b7⟩
    have HB7 := Lib.hid (HB6.out.trans (b7.mono HB6.out.size))
    go_wp2_with (go_at_call 9; with_reducible refine (eqFactorS_same (((o4.step b5).step b6).step b7).reads o7.reads).mono ?_)
    rintro _ w8 ⟨rfl, b8⟩
    have HB8 := Lib.hid (HB7.out.trans (b8.mono HB7.out.size))
    have HO4 := Lib.hid ((((o4.step b5).step b6).step b7).step b8)
    have HO5 := Lib.hid (((o5.step b6).step b7).step b8)
    have HO3 := Lib.hid (((((o3.step b4).step b5).step b6).step b7).step b8)
    have hs3 : ∀ k, v3.ownBlock = some k → k < w3.heap.size := fun k hk => (o3.lt k hk).2
    have hs5 : ∀ k, v5.ownBlock = some k → w4.heap.size ≤ k := fun k hk => (o5.lt k hk).1
    have hs34 := b4.size
    have HS3 := Lib.hid hs3
    have HS5 := Lib.hid hs5
    have HL5 := Lib.hid o5.1
    clear o2 o3 o4 o5 o7 hs3 hs5
    go_wp2_with (go_at_call 10; with_reducible refine (markFactorS_any HO4.out HP.out).mono ?_)
    rintro _ w9 ⟨m9, rfl, hm0, hm1, t9⟩
    have HB9 := Lib.hid (HB8.out.trans (t9.below HB3.out.size (HB8.out.size)))
    have HO5b := Lib.hid (HO5.out.touch t9 (fun k hk => .inr (HS5.out k hk)))
    have HO3b := Lib.hid (HO3.out.touch t9 (fun k hk => .inl (HS3.out k hk)))
    clear t9
    go_wp2_with (go_at_call 8; with_reducible refine (eqInt64S_same HO5b.out.reads HO3b.out.reads).mono ?_)
    rintro _ w10 ⟨rfl, b10⟩
    have HB10 := Lib.hid (HB9.out.trans (b10.mono HB9.out.size))
    have hL5 := HL5.out
    go_wp2_with (go_at_call 11; with_reducible refine (markInt64S_any _ (by omega) (by have := HL5.out; omega) (HO5b.out.step b10)).mono ?_)
    rintro _ w11 ⟨rfl, o11, g11⟩
    have hne : v3.ownBlock = none ∨ v3.ownBlock ≠ v5.ownBlock := by
      cases h3 : v3.ownBlock with
      | none => exact .inl rfl
      | some k =>
        right
        intro e
        have := HS3.out k h3
        have := HS5.out k e.symm
        omega
    have HO3c := Lib.hid ((HO3b.out.step b10).kept g11 hne)
    have HB11 := Lib.hid (HB10.out.grown g11 HB10.out.size (fun k hk => by have := HS5.out k hk; have := HB4.out.size; omega))
    have HO11 := Lib.hid o11
    clear g11 hne o11
    go_wp2_with (go_at_call 12; with_reducible refine (heldInt64S_any _ (by omega) (by omega) HO11.out.reads).mono ?_)
    rintro _ _ ⟨rfl, rfl⟩
    go_wp2_with (go_at_call 6; with_reducible refine (toFactorS_any (HF.out.step HB11.out)).mono ?_)
    rintro _ w12 ⟨v12, rfl, o12, b12⟩
    have HB12 := Lib.hid (HB11.out.trans (b12.mono HB11.out.size))
    go_wp2_with (go_at_call 7; with_reducible refine (ProductOf_any o12.reads).mono ?_)
    rintro _ w13 ⟨v13, rfl, o13, b13⟩
    have HB13 := Lib.hid (HB12.out.trans (b13.mono HB12.out.size))
    go_wp2_with (go_at_call 8; with_reducible refine (eqInt64S_same o13.reads ((HO3c.out.step b12).step b13).reads).mono ?_)
    rintro _ w14 ⟨rfl, b14⟩
    have HB14 := Lib.hid (HB13.out.trans (b14.mono HB13.out.size))
    go_wp2_with (go_at_call 12; with_reducible refine (heldInt64S_any _ (by omega) (by omega) (((HO11.out.step b12).step b13).step b14).reads).mono ?_)
    rintro _ _ ⟨rfl, rfl⟩
    go_wp2
    go_ret
    exact ⟨rfl, HB14.out⟩

theorem own : ownKnob Try.prog.godebug = none := by kernel_rfl
theorem laidOut : laidOutB Try.prog = true := by kernel_rfl

set_option maxRecDepth 100000 in
theorem lifted (os : Os) (started : os.Started) (H : Type) (enc : TypeId × Value → H) :
    ReturnsInHanded {} Try.checked os 3 .any (Rows.fnExactProductOfSpec.pre6 enc Try.prog Try.f3 Rows.fnExactProductOfRow.domain false) (Rows.fnExactProductOfSpec.post enc Try.prog Try.f3 false true false false) := by
  refine returnsInHanded_of_change (C := Try.checked) own started (by kernel_rfl) Try.func3
    (ChangeSpec.witness6 (enc := enc) (C := Try.checked) false ⟨#[], #[.int .i64 0, .slice none 0 0], []⟩ 8 (by kernel_rfl) (by kernel_rfl) (by kernel_rfl) (by kernel_rfl)) ?_
  intro W base args ds gs before hval0 hW hcnd _
  have hval : ∀ (j : Nat) t v, Try.f3.params[j]? = some t → args[j]? = some v → Value.okWide Try.prog W .any base t v := hval0
  have hW' := hW
  obtain ⟨p, q, hA0, hV, rfl, hfz, hnd⟩ := hW
  have hA : DataW.TrodAll enc Try.prog W 0 (fun _ => true) true Try.f3.params.toList args.toList ds p := hA0
  rw [Try.params3] at hA hval
  obtain ⟨v0, vs0, d0, ds0, p0, q0, hargs, rfl, rfl, h0, r0⟩ := trodAll_cons hA
  obtain ⟨v1, vs1, d1, ds1, p1, q1, rfl, rfl, rfl, h1, r1⟩ := trodAll_cons r0
  obtain ⟨rfl, rfl, rfl⟩ := trodAll_nil r1
  obtain rfl : args = #[v0, v1] := by cases args; simp_all
  obtain ⟨rfl, rfl⟩ := trodVars_none hV
  have k0 := h0
  have lt0 : ∀ x ∈ p0, x.block < W.heap.size := by obtain ⟨m, hm⟩ := k0; exact DataW.trod_lt m _ _ _ hm
  obtain ⟨a0, rfl, _, _, wf0⟩ := open_int Try.underlying2 (hval 0 2 v0 rfl rfl) h0
  have k1 := h1
  have lt1 : ∀ x ∈ p1, x.block < W.heap.size := by obtain ⟨m, hm⟩ := k1; exact DataW.trod_lt m _ _ _ hm
  obtain ⟨a1, len1, cap1, rfl⟩ := okWide_slice Try.underlying22 (hval 1 22 v1 rfl rfl)
  obtain ⟨U1, z1, w1⟩ : ∃ U zs, ARow W (.slice a1 len1 cap1) len1 U zs := by
    obtain ⟨fuel, hf⟩ := h1
    rcases Go.Deep.open_slice_pairs Try.underlying22 Try.underlying36 (by kernel_rfl) rfl rfl (by kernel_rfl) (by kernel_rfl) hf with ⟨hcs, _⟩ | ⟨x, l, c, m, nn, V0, V1, D0, D1, Q0, Q1, hcs, _, hl, hm, hmm, _, hx⟩
    · simp [Value.cells] at hcs
      obtain ⟨rfl, rfl, rfl⟩ := hcs
      exact ⟨fun _ => nilS, [], arow_nil⟩
    · simp [Value.cells] at hcs
      obtain ⟨rfl, rfl, rfl⟩ := hcs
      simp only [if_true] at hmm
      subst hmm
      refine arow_of (V0 := V0) (V1 := V1) hl hm fun i hi => ?_
      obtain ⟨x1, x2, x3, x4⟩ := hx i (by omega)
      refine ⟨x1, x2, ?_, ?_⟩
      · obtain ⟨y, ey, _, wfy⟩ := DataW.trod_int Try.underlying2 x4
        simp at ey
        exact ⟨y, ey, bounds_i64 wfy⟩
      · rcases open_ints Try.underlying24 Try.underlying2 (by kernel_rfl) x3 with ⟨hcs, _⟩ | ⟨x', l', c', zs, hcs, _, hl', hm', hz, _, hcell, hwz⟩
        · simp at hcs
          exact ⟨_, _, _, [], hcs, by simp [maxLen], .inl ⟨rfl, rfl, rfl, rfl⟩⟩
        · simp at hcs
          exact ⟨_, _, _, zs, hcs, by omega, .inr ⟨_, rfl, hl', hm', by simpa using hz, hcell, hwz⟩⟩
  clear hA0 hval0
  refine (walk a0 _ len1 U1 z1 W (bounds_i64 wf0) w1).mono fun e W' ⟨he, bel⟩ => ?_
  subst he
  exact ⟨_, rfl, _, _, _, [], _, [], hW', trodAll_mk1 (shut_bool Try.underlying4 _), (trodAll_cons_mk (Below.trod laidOut (by kernel_rfl) (of_decide_eq_true (by kernel_rfl)) k0 bel lt0) (trodAll_cons_mk (Below.trod laidOut (by kernel_rfl) (of_decide_eq_true (by kernel_rfl)) k1 bel lt1) trodAll_mk0)), rfl, bel.frame _, fun h => by cases h⟩

theorem over : Rows.fnExactProductOfRow.holds Try.pinned (OpenSpec.ofChange Rows.fnExactProductOfSpec) :=
  OpenClaim.holds_of_wide 3 Try.f3 rfl rfl rfl rfl rfl rfl rfl ⟨rfl, rfl, rfl, rfl, rfl⟩ rfl rfl rfl rfl rfl (by kernel_rfl) Try.func3 (by kernel_rfl)
    (of_decide_eq_true (by kernel_rfl)) (by unfold Func.isWrapper; first | (rw [if_pos (by decide +kernel)]; kernel_rfl) | (rw [if_neg (by decide +kernel)]; exact ⟨rfl, rfl⟩))
    (fun os started H enc _ => lifted os started H enc)

theorem proved : Rows.FnExactProductOfSaid := over
#print axioms proved
end Go.Proofs.Ytelpnpfmedlklaa.productLaw
