/- 'laws.FnExactCommonModular' returns true for all arguments: the program's CommonModular and the reference's give the same. Conditions: none. -/
import Derived.Test.YthepcmppibibfaaRows
import Derived.WalkKit
import Derived.ProofKit
import Derived.OpenShut
import Derived.ShutString
import Derived.ChangeOld
import Derived.Below
import Derived.Lib.SmallJoins
import Derived.Test.YthepcmppibibfaaOm
namespace Go.Proofs.Ythepcmppibibfaa.commonModular
open Go.ChangeShapes Go.WideShapes Go.ChangeAt Go.RowKit
open Go.ChangeMaps (open_string shut_string)
set_option linter.unusedVariables false
set_option linter.unusedSimpArgs false

def out (p : Int) (f g : List Int) : List Int := if modlB p f then if modlB p g then comL p f g else [] else []
def code (p : Int) (f g : List Int) : Int := if modlB p f then if modlB p g then 0 else 1 else 1
set_option maxHeartbeats 1000000 in
theorem impl_any {p : Int} {v u : Value} {f g : List Int} {w : World} (h : Reads w v f) (h' : Reads w u g) : Calls Try.prog 29 #[.int .i64 p, v, u] w (RetIC (out p f g) (code p f g) w) := by
  have HA := Lib.hid h
  have HB := Lib.hid h'
  clear h h'
  rcases Bool.eq_false_or_eq_true (modlB p f) with hp | hq
  · have HP := Lib.hid hp
    rcases Bool.eq_false_or_eq_true (modlB p g) with hq | hq
    · have HQ := Lib.hid hq
      obtain ⟨p1, p2, ps, l1, i1⟩ := modl_in hp
      obtain ⟨_, _, _, l2, i2⟩ := modl_in hq
      have t2 := modl_tidy hq
      clear hp hq
      go_enter Try.func29, Try.ntmps29
      go_wp2_with (go_at_call 62; with_reducible refine (calls_bool (IsModular_any HA.out) HP.out).mono ?_)
      rintro _ w1 ⟨rfl, hb1⟩
      go_wp2_with (go_at_call 62; with_reducible refine (calls_bool (IsModular_any (HB.out.step hb1)) HQ.out).mono ?_)
      rintro _ w2 ⟨rfl, hb2⟩
      have HB2 := Lib.hid (hb1.trans (hb2.mono hb1.size))
      go_wp2_with (go_at_call 68; with_reducible refine (common_any (HA.out.step HB2.out) (HB.out.step HB2.out) i1 i2 ps (by omega) (by omega) t2).mono ?_)
      rintro _ w3 ⟨v3, rfl, o3, hb3⟩
      go_wp2
      go_ret2
      exact ⟨v3, by simp [code, HP.out, HQ.out], by simpa [out, HP.out, HQ.out] using o3.mono HB2.out.size, HB2.out.trans (hb3.mono HB2.out.size)⟩
    · have HQ := Lib.hid hq
      clear hp hq
      go_enter Try.func29, Try.ntmps29
      go_wp2_with (go_at_call 62; with_reducible refine (calls_bool (IsModular_any HA.out) HP.out).mono ?_)
      rintro _ w1 ⟨rfl, hb1⟩
      go_wp2_with (go_at_call 62; with_reducible refine (calls_bool (IsModular_any (HB.out.step hb1)) HQ.out).mono ?_)
      rintro _ w2 ⟨rfl, hb2⟩
      go_wp2
      go_ret2
      exact ⟨.slice none 0 0, by simp [code, HP.out, HQ.out], by simpa [out, HP.out, HQ.out] using Own.nil, hb1.trans (hb2.mono hb1.size)⟩
  · have HP := Lib.hid hq
    clear hq
    go_enter Try.func29, Try.ntmps29
    go_wp2_with (go_at_call 62; with_reducible refine (calls_bool (IsModular_any HA.out) HP.out).mono ?_)
    rintro _ w1 ⟨rfl, hb1⟩
    go_wp2
    go_ret2
    exact ⟨.slice none 0 0, by simp [code, HP.out], by simpa [out, HP.out] using Own.nil, hb1⟩
set_option maxHeartbeats 1000000 in
theorem spec_any {p : Int} {v u : Value} {f g : List Int} {w : World} (h : Reads w v f) (h' : Reads w u g) : Calls Try.prog 28 #[.int .i64 p, v, u] w (RetIC (out p f g) (code p f g) w) := by
  have HA := Lib.hid h
  have HB := Lib.hid h'
  clear h h'
  rcases Bool.eq_false_or_eq_true (modlB p f) with hp | hq
  · have HP := Lib.hid hp
    rcases Bool.eq_false_or_eq_true (modlB p g) with hq | hq
    · have HQ := Lib.hid hq
      obtain ⟨p1, p2, ps, l1, i1⟩ := modl_in hp
      obtain ⟨_, _, _, l2, i2⟩ := modl_in hq
      have t2 := modl_tidy hq
      clear hp hq
      go_enter Try.func28, Try.ntmps28
      go_wp2_with (first | (go_at_call 60; ((with_reducible refine (calls_bool (sIsModular_any HA.out) HP.out).mono ?_); rintro e w' ⟨rfl, rfl⟩)) | (go_at_call 60; ((with_reducible refine (calls_bool (sIsModular_any HB.out) HQ.out).mono ?_); rintro e w' ⟨rfl, rfl⟩)) | (go_at_call 67; with_reducible refine (l08Common_any HA.out HB.out i1 i2 ps (by omega) (by omega) t2).mono ?_))
      rintro _ w3 ⟨v3, rfl, o3, hb3⟩
      go_wp2
      go_ret2
      exact ⟨v3, by simp [code, HP.out, HQ.out], by simpa [out, HP.out, HQ.out] using o3, hb3⟩
    · have HQ := Lib.hid hq
      clear hp hq
      go_enter Try.func28, Try.ntmps28
      go_wp2_with (first | (go_at_call 60; ((with_reducible refine (calls_bool (sIsModular_any HA.out) HP.out).mono ?_); rintro e w' ⟨rfl, rfl⟩)) | (go_at_call 60; ((with_reducible refine (calls_bool (sIsModular_any HB.out) HQ.out).mono ?_); rintro e w' ⟨rfl, rfl⟩)))
      go_ret2
      exact ⟨.slice none 0 0, by simp [code, HP.out, HQ.out], by simpa [out, HP.out, HQ.out] using Own.nil, Below.refl _ _⟩
  · have HP := Lib.hid hq
    clear hq
    go_enter Try.func28, Try.ntmps28
    go_wp2_with (go_at_call 60; ((with_reducible refine (calls_bool (sIsModular_any HA.out) HP.out).mono ?_); rintro e w' ⟨rfl, rfl⟩))
    go_ret2
    exact ⟨.slice none 0 0, by simp [code, HP.out], by simpa [out, HP.out] using Own.nil, Below.refl _ _⟩
set_option maxHeartbeats 4000000 in
theorem walk (a0 : Int) (a1 : Option Addr) (len1 cap1 : Nat) (z1 : List Int) (a2 : Option Addr) (len2 cap2 : Nat) (z2 : List Int) (w : World) (ha0 : -9223372036854775808 ≤ a0 ∧ a0 ≤ 9223372036854775807) (ha1 : IsRow .i64 w a1 len1 cap1 z1) (ha2 : IsRow .i64 w a2 len2 cap2 z2) :
    Calls Try.prog 7 #[.int .i64 a0, .slice a1 len1 cap1, .slice a2 len2 cap2] w fun e w' => e = .returned (.bool true) ∧ Below w.heap.size w w' := by
  by_cases hbig1 : len1 ≤ 1048576
  case neg =>
    go_enter Try.func7, Try.ntmps7
    go_wp2
    go_ret
    exact ⟨rfl, Below.refl _ _⟩
  by_cases hbig2 : len2 ≤ 1048576
  case neg =>
    go_enter Try.func7, Try.ntmps7
    go_wp2
    go_ret
    exact ⟨rfl, Below.refl _ _⟩
  obtain ⟨Z1, rfl, hzb1, hr1⟩ := ha1.reads hbig1
  clear ha1
  obtain ⟨Z2, rfl, hzb2, hr2⟩ := ha2.reads hbig2
  clear ha2
  have B0 : Below w.heap.size w w := Below.refl _ _
  go_enter Try.func7, Try.ntmps7
  go_wp2_with (go_at_call 17; with_reducible refine (toInt64S_any hr1).mono ?_)
  rintro _ w1 ⟨v1, rfl, o1, hb1⟩
  have B1 : Below w.heap.size w w1 := B0.trans (hb1.mono B0.size)
  go_wp2_with (go_at_call 17; with_reducible refine (toInt64S_any (hr2.step B1)).mono ?_)
  rintro _ w2 ⟨v2, rfl, o2, hb2⟩
  have B2 : Below w.heap.size w w2 := B1.trans (hb2.mono B1.size)
  go_wp2_with (go_at_call 28; with_reducible refine (spec_any (o1.step hb2).reads o2.reads).mono ?_)
  rintro _ w3 ⟨v3, rfl, o3, hb3⟩
  have B3 : Below w.heap.size w w3 := B2.trans (hb3.mono B2.size)
  have l3 := o3.1
  go_wp2_with (go_at_call 17; with_reducible refine (toInt64S_any (hr1.step B3)).mono ?_)
  rintro _ w4 ⟨v4, rfl, o4, hb4⟩
  have B4 : Below w.heap.size w w4 := B3.trans (hb4.mono B3.size)
  go_wp2_with (go_at_call 17; with_reducible refine (toInt64S_any (hr2.step B4)).mono ?_)
  rintro _ w5 ⟨v5, rfl, o5, hb5⟩
  have B5 : Below w.heap.size w w5 := B4.trans (hb5.mono B4.size)
  go_wp2_with (go_at_call 29; with_reducible refine (impl_any (o4.step hb5).reads o5.reads).mono ?_)
  rintro _ w6 ⟨v6, rfl, o6, hb6⟩
  have B6 : Below w.heap.size w w6 := B5.trans (hb6.mono B5.size)
  have l6 := o6.1
  go_wp2_with (go_at_call 19; with_reducible refine (eqInt64S_same o6.reads (((o3.step hb4).step hb5).step hb6).reads).mono ?_)
  rintro _ w7 ⟨rfl, hb7⟩
  have B7 : Below w.heap.size w w7 := B6.trans (hb7.mono B6.size)
  go_wp2_with (go_at_call 17; with_reducible refine (toInt64S_any (hr1.step B7)).mono ?_)
  rintro _ w8 ⟨v8, rfl, o8, hb8⟩
  have B8 : Below w.heap.size w w8 := B7.trans (hb8.mono B7.size)
  go_wp2_with (go_at_call 19; with_reducible refine (eqInt64S_same ((((o4.step hb5).step hb6).step hb7).step hb8).reads o8.reads).mono ?_)
  rintro _ w9 ⟨rfl, hb9⟩
  have B9 : Below w.heap.size w w9 := B8.trans (hb9.mono B8.size)
  go_wp2_with (go_at_call 17; with_reducible refine (toInt64S_any (hr2.step B9)).mono ?_)
  rintro _ w10 ⟨v10, rfl, o10, hb10⟩
  have B10 : Below w.heap.size w w10 := B9.trans (hb10.mono B9.size)
  go_wp2_with (go_at_call 19; with_reducible refine (eqInt64S_same (((((o5.step hb6).step hb7).step hb8).step hb9).step hb10).reads o10.reads).mono ?_)
  rintro _ w11 ⟨rfl, hb11⟩
  have B11 : Below w.heap.size w w11 := B10.trans (hb11.mono B10.size)
  go_wp2_with (go_at_call 22; with_reducible refine (markInt64S_any _ (by omega) (by omega) (((((((o4.step hb5).step hb6).step hb7).step hb8).step hb9).step hb10).step hb11)).mono ?_)
  rintro _ w12 ⟨rfl, o12, hg12⟩
  have B12 : Below w.heap.size w w12 := B11.grown hg12 B11.size (fun k hk => by have := (o4.lt k hk).1; have := B3.size; omega)
  go_wp2_with (go_at_call 22; with_reducible refine (markInt64S_any _ (by omega) (by omega) (((((((o5.step hb6).step hb7).step hb8).step hb9).step hb10).step hb11).kept hg12 (own_apart o4 o5))).mono ?_)
  rintro _ w13 ⟨rfl, o13, hg13⟩
  have B13 : Below w.heap.size w w13 := B12.grown hg13 B12.size (fun k hk => by have := (o5.lt k hk).1; have := B4.size; omega)
  go_wp2_with (go_at_call 19; with_reducible refine (eqInt64S_same (((((((o6.step hb7).step hb8).step hb9).step hb10).step hb11).kept hg12 (own_apart (o4.step hb5) o6)).kept hg13 (own_apart o5 o6)).reads ((((((((((o3.step hb4).step hb5).step hb6).step hb7).step hb8).step hb9).step hb10).step hb11).kept hg12 (own_apart' o3 o4)).kept hg13 (own_apart' (o3.step hb4) o5)).reads).mono ?_)
  rintro _ w14 ⟨rfl, hb14⟩
  have B14 : Below w.heap.size w w14 := B13.trans (hb14.mono B13.size)
  go_wp2_with (go_at_call 22; with_reducible refine (markInt64S_any _ (by omega) (by omega) ((((((((o6.step hb7).step hb8).step hb9).step hb10).step hb11).kept hg12 (own_apart (o4.step hb5) o6)).kept hg13 (own_apart o5 o6)).step hb14)).mono ?_)
  rintro _ w15 ⟨rfl, o15, hg15⟩
  have B15 : Below w.heap.size w w15 := B14.grown hg15 B14.size (fun k hk => by have := (o6.lt k hk).1; have := B5.size; omega)
  go_wp2_with (go_at_call 23; with_reducible refine (heldInt64S_any _ (by omega) (by omega) o15.reads).mono ?_)
  rintro _ _ ⟨rfl, rfl⟩
  go_wp2_with (go_at_call 17; with_reducible refine (toInt64S_any (hr1.step B15)).mono ?_)
  rintro _ w16 ⟨v16, rfl, o16, hb16⟩
  have B16 : Below w.heap.size w w16 := B15.trans (hb16.mono B15.size)
  go_wp2_with (go_at_call 17; with_reducible refine (toInt64S_any (hr2.step B16)).mono ?_)
  rintro _ w17 ⟨v17, rfl, o17, hb17⟩
  have B17 : Below w.heap.size w w17 := B16.trans (hb17.mono B16.size)
  go_wp2_with (go_at_call 29; with_reducible refine (impl_any (o16.step hb17).reads o17.reads).mono ?_)
  rintro _ w18 ⟨v18, rfl, o18, hb18⟩
  have B18 : Below w.heap.size w w18 := B17.trans (hb18.mono B17.size)
  have l18 := o18.1
  go_wp2_with (go_at_call 19; with_reducible refine (eqInt64S_same o18.reads (((((((((((((((o3.step hb4).step hb5).step hb6).step hb7).step hb8).step hb9).step hb10).step hb11).kept hg12 (own_apart' o3 o4)).kept hg13 (own_apart' (o3.step hb4) o5)).step hb14).kept hg15 (own_apart' ((o3.step hb4).step hb5) o6)).step hb16).step hb17).step hb18).reads).mono ?_)
  rintro _ w19 ⟨rfl, hb19⟩
  have B19 : Below w.heap.size w w19 := B18.trans (hb19.mono B18.size)
  go_wp2_with (go_at_call 23; with_reducible refine (heldInt64S_any _ (by omega) (by omega) ((((o15.step hb16).step hb17).step hb18).step hb19).reads).mono ?_)
  rintro _ _ ⟨rfl, rfl⟩
  go_wp2
  go_ret
  exact ⟨rfl, B19⟩

theorem own : ownKnob Try.prog.godebug = none := by kernel_rfl
theorem laidOut : laidOutB Try.prog = true := by kernel_rfl

set_option maxRecDepth 100000 in
theorem lifted (os : Os) (started : os.Started) (H : Type) (enc : TypeId × Value → H) :
    ReturnsInHanded {} Try.checked os 7 .any (Rows.fnExactCommonModularSpec.pre6 enc Try.prog Try.f7 Rows.fnExactCommonModularRow.domain false) (Rows.fnExactCommonModularSpec.post enc Try.prog Try.f7 false true false false) := by
  refine returnsInHanded_of_change (C := Try.checked) own started (by kernel_rfl) Try.func7
    (ChangeSpec.witness6 (enc := enc) (C := Try.checked) false ⟨#[], #[.int .i64 0, .slice none 0 0, .slice none 0 0], []⟩ 8 (by kernel_rfl) (by kernel_rfl) (by kernel_rfl) (by kernel_rfl)) ?_
  intro W base args ds gs before hval0 hW hcnd _
  have hval : ∀ (j : Nat) t v, Try.f7.params[j]? = some t → args[j]? = some v → Value.okWide Try.prog W .any base t v := hval0
  have hW' := hW
  obtain ⟨p, q, hA0, hV, rfl, hfz, hnd⟩ := hW
  have hA : DataW.TrodAll enc Try.prog W 0 (fun _ => true) true Try.f7.params.toList args.toList ds p := hA0
  rw [Try.params7] at hA hval
  obtain ⟨v0, vs0, d0, ds0, p0, q0, hargs, rfl, rfl, h0, r0⟩ := trodAll_cons hA
  obtain ⟨v1, vs1, d1, ds1, p1, q1, rfl, rfl, rfl, h1, r1⟩ := trodAll_cons r0
  obtain ⟨v2, vs2, d2, ds2, p2, q2, rfl, rfl, rfl, h2, r2⟩ := trodAll_cons r1
  obtain ⟨rfl, rfl, rfl⟩ := trodAll_nil r2
  obtain rfl : args = #[v0, v1, v2] := by cases args; simp_all
  obtain ⟨rfl, rfl⟩ := trodVars_none hV
  have k0 := h0
  have lt0 : ∀ x ∈ p0, x.block < W.heap.size := by obtain ⟨m, hm⟩ := k0; exact DataW.trod_lt m _ _ _ hm
  obtain ⟨a0, rfl, _, _, wf0⟩ := open_int Try.underlying2 (hval 0 2 v0 rfl rfl) h0
  have k1 := h1
  have lt1 : ∀ x ∈ p1, x.block < W.heap.size := by obtain ⟨m, hm⟩ := k1; exact DataW.trod_lt m _ _ _ hm
  obtain ⟨a1, len1, cap1, rfl⟩ := okWide_slice Try.underlying24 (hval 1 24 v1 rfl rfl)
  obtain ⟨z1, w1⟩ : ∃ zs, IsRow .i64 W a1 len1 cap1 zs := by
    obtain ⟨fuel, hf⟩ := h1
    rcases open_ints Try.underlying24 Try.underlying2 (by kernel_rfl) hf with ⟨hcs, _⟩ | ⟨x, l, c, zs, hcs, _, hl, hm, hz, _, hcell, hwz⟩
    · simp [Value.cells] at hcs
      obtain ⟨rfl, rfl, rfl⟩ := hcs
      exact ⟨[], .inl ⟨rfl, rfl, rfl, rfl⟩⟩
    · simp [Value.cells] at hcs
      obtain ⟨rfl, rfl, rfl⟩ := hcs
      exact ⟨zs, .inr ⟨_, rfl, hl, hm, by simpa using hz, hcell, hwz⟩⟩
  have k2 := h2
  have lt2 : ∀ x ∈ p2, x.block < W.heap.size := by obtain ⟨m, hm⟩ := k2; exact DataW.trod_lt m _ _ _ hm
  obtain ⟨a2, len2, cap2, rfl⟩ := okWide_slice Try.underlying24 (hval 2 24 v2 rfl rfl)
  obtain ⟨z2, w2⟩ : ∃ zs, IsRow .i64 W a2 len2 cap2 zs := by
    obtain ⟨fuel, hf⟩ := h2
    rcases open_ints Try.underlying24 Try.underlying2 (by kernel_rfl) hf with ⟨hcs, _⟩ | ⟨x, l, c, zs, hcs, _, hl, hm, hz, _, hcell, hwz⟩
    · simp [Value.cells] at hcs
      obtain ⟨rfl, rfl, rfl⟩ := hcs
      exact ⟨[], .inl ⟨rfl, rfl, rfl, rfl⟩⟩
    · simp [Value.cells] at hcs
      obtain ⟨rfl, rfl, rfl⟩ := hcs
      exact ⟨zs, .inr ⟨_, rfl, hl, hm, by simpa using hz, hcell, hwz⟩⟩
  clear hA0 hval0
  refine (walk a0 a1 len1 cap1 z1 a2 len2 cap2 z2 W (bounds_i64 wf0) w1 w2).mono fun e W' ⟨he, bel⟩ => ?_
  subst he
  exact ⟨_, rfl, _, _, _, [], _, [], hW', trodAll_mk1 (shut_bool Try.underlying4 _), (trodAll_cons_mk (Below.trod laidOut (by kernel_rfl) (of_decide_eq_true (by kernel_rfl)) k0 bel lt0) (trodAll_cons_mk (Below.trod laidOut (by kernel_rfl) (of_decide_eq_true (by kernel_rfl)) k1 bel lt1) (trodAll_cons_mk (Below.trod laidOut (by kernel_rfl) (of_decide_eq_true (by kernel_rfl)) k2 bel lt2) trodAll_mk0))), rfl, bel.frame _, fun h => by cases h⟩

theorem over : Rows.fnExactCommonModularRow.holds Try.pinned (OpenSpec.ofChange Rows.fnExactCommonModularSpec) :=
  OpenClaim.holds_of_wide 7 Try.f7 rfl rfl rfl rfl rfl rfl rfl ⟨rfl, rfl, rfl, rfl, rfl⟩ rfl rfl rfl rfl rfl (by kernel_rfl) Try.func7 (by kernel_rfl)
    (of_decide_eq_true (by kernel_rfl)) (by unfold Func.isWrapper; first | (rw [if_pos (by decide +kernel)]; kernel_rfl) | (rw [if_neg (by decide +kernel)]; exact ⟨rfl, rfl⟩))
    (fun os started H enc _ => lifted os started H enc)

theorem proved : Rows.FnExactCommonModularSaid := over
#print axioms proved
end Go.Proofs.Ythepcmppibibfaa.commonModular
