/- 'laws.FnExactDifferentOf' returns true for all arguments: the program's DifferentOf and the reference's give the same. Conditions: none. -/
import Derived.Test.YtjampkjgapkklaaRows
import Derived.WalkKit
import Derived.ProofKit
import Derived.OpenShut
import Derived.ShutString
import Derived.ChangeOld
import Derived.Below
import Derived.Lib.SmallJoins
import Derived.Test.YtjampkjgapkklaaEa
namespace Go.Proofs.Ytjampkjgapkklaa.differentOf
open Go.ChangeShapes Go.WideShapes Go.ChangeAt Go.RowKit
open Go.ChangeMaps (open_string shut_string)
set_option linter.unusedVariables false
set_option linter.unusedSimpArgs false

theorem impl_any {p : Int} {v : Value} {f : List Int} {w : World} (h : Reads w v f) :
    Calls Try.prog 48 #[.int .i64 p, v] w fun e w' => e = .returned (.tuple #[.int .i64 (difV p f), .int .i64 (ownC p f)]) ∧ w = w' := by
  by_cases hc : ownC p f = 0
  · rw [difV, if_pos hc, hc]
    exact DifferentOf_ok h hc
  · have hb : (ownC p f != 0) = true := by simpa using hc
    have HR := Lib.hid h
    rw [difV, if_neg hc]
    clear h hc
    go_enter Try.func48, Try.ntmps48
    go_wp2_with (go_at_call 96; ((with_reducible refine (eisenstein_any HR.out).mono ?_); rintro e w' ⟨rfl, rfl⟩))
    go_ret2
    exact ⟨rfl, rfl⟩
theorem spec_any {p : Int} {v : Value} {f : List Int} {w : World} (h : Reads w v f) :
    Calls Try.prog 46 #[.int .i64 p, v] w fun e w' => e = .returned (.tuple #[.int .i64 (difV p f), .int .i64 (ownC p f)]) ∧ w = w' := by
  have HR := Lib.hid h
  clear h
  by_cases hc : ownC p f = 0
  · have HC := Lib.hid hc
    rw [difV, if_pos hc, hc]
    clear hc
    go_enter Try.func46, Try.ntmps46
    go_wp2_with (first | (go_at_call 94; ((with_reducible refine (calls_int (l15Own_any HR.out) HC.out).mono ?_); rintro e w' ⟨rfl, rfl⟩)) | (go_at_call 95; ((with_reducible refine (l15Different_ok HR.out HC.out).mono ?_); rintro e w' ⟨rfl, rfl⟩)))
    go_ret2
    exact ⟨rfl, rfl⟩
  · have hb : (ownC p f != 0) = true := by simpa using hc
    rw [difV, if_neg hc]
    clear hc
    go_enter Try.func46, Try.ntmps46
    go_wp2_with (go_at_call 94; ((with_reducible refine (l15Own_any HR.out).mono ?_); rintro e w' ⟨rfl, rfl⟩))
    go_ret2
    exact ⟨rfl, rfl⟩
set_option maxHeartbeats 2000000 in
theorem walk (a0 : Int) (a1 : Option Addr) (len1 cap1 : Nat) (z1 : List Int) (w : World) (ha0 : -9223372036854775808 ≤ a0 ∧ a0 ≤ 9223372036854775807) (ha1 : IsRow .i64 w a1 len1 cap1 z1) :
    Calls Try.prog 14 #[.int .i64 a0, .slice a1 len1 cap1] w fun e w' => e = .returned (.bool true) ∧ Below w.heap.size w w' := by
  by_cases hbig1 : len1 ≤ 1048576
  case neg =>
    go_enter Try.func14, Try.ntmps14
    go_wp2
    go_ret
    exact ⟨rfl, Below.refl _ _⟩
  obtain ⟨Z1, rfl, hzb1, hr1⟩ := ha1.reads hbig1
  clear ha1
  have B0 : Below w.heap.size w w := Below.refl _ _
  go_enter Try.func14, Try.ntmps14
  go_wp2_with (go_at_call 47; with_reducible refine (toInt64S_any hr1).mono ?_)
  rintro _ w1 ⟨v1, rfl, o1, hb1⟩
  have B1 : Below w.heap.size w w1 := B0.trans (hb1.mono B0.size)
  go_wp2_with (go_at_call 46; with_reducible refine (spec_any o1.reads).mono ?_)
  rintro _ _ ⟨rfl, rfl⟩
  go_wp2_with (go_at_call 47; with_reducible refine (toInt64S_any (hr1.step B1)).mono ?_)
  rintro _ w2 ⟨v2, rfl, o2, hb2⟩
  have B2 : Below w.heap.size w w2 := B1.trans (hb2.mono B1.size)
  go_wp2_with (go_at_call 48; with_reducible refine (impl_any o2.reads).mono ?_)
  rintro _ _ ⟨rfl, rfl⟩
  go_wp2_with (go_at_call 47; with_reducible refine (toInt64S_any (hr1.step B2)).mono ?_)
  rintro _ w3 ⟨v3, rfl, o3, hb3⟩
  have B3 : Below w.heap.size w w3 := B2.trans (hb3.mono B2.size)
  go_wp2_with (go_at_call 29; with_reducible refine (eqInt64S_same (o2.step hb3).reads o3.reads).mono ?_)
  rintro _ w4 ⟨rfl, hb4⟩
  have B4 : Below w.heap.size w w4 := B3.trans (hb4.mono B3.size)
  go_wp2
  go_ret
  exact ⟨rfl, B4⟩

theorem own : ownKnob Try.prog.godebug = none := by kernel_rfl
theorem laidOut : laidOutB Try.prog = true := by kernel_rfl

set_option maxRecDepth 100000 in
theorem lifted (os : Os) (started : os.Started) (H : Type) (enc : TypeId × Value → H) :
    ReturnsInHanded {} Try.checked os 14 .any (Rows.fnExactDifferentOfSpec.pre6 enc Try.prog Try.f14 Rows.fnExactDifferentOfRow.domain false) (Rows.fnExactDifferentOfSpec.post enc Try.prog Try.f14 false true false false) := by
  refine returnsInHanded_of_change (C := Try.checked) own started (by kernel_rfl) Try.func14
    (ChangeSpec.witness6 (enc := enc) (C := Try.checked) false ⟨#[], #[.int .i64 0, .slice none 0 0], []⟩ 8 (by kernel_rfl) (by kernel_rfl) (by kernel_rfl) (by kernel_rfl)) ?_
  intro W base args ds gs before hval0 hW hcnd _
  have hval : ∀ (j : Nat) t v, Try.f14.params[j]? = some t → args[j]? = some v → Value.okWide Try.prog W .any base t v := hval0
  have hW' := hW
  obtain ⟨p, q, hA0, hV, rfl, hfz, hnd⟩ := hW
  have hA : DataW.TrodAll enc Try.prog W 0 (fun _ => true) true Try.f14.params.toList args.toList ds p := hA0
  rw [Try.params14] at hA hval
  obtain ⟨v0, vs0, d0, ds0, p0, q0, hargs, rfl, rfl, h0, r0⟩ := trodAll_cons hA
  obtain ⟨v1, vs1, d1, ds1, p1, q1, rfl, rfl, rfl, h1, r1⟩ := trodAll_cons r0
  obtain ⟨rfl, rfl, rfl⟩ := trodAll_nil r1
  obtain rfl : args = #[v0, v1] := by cases args; simp_all
  obtain ⟨rfl, rfl⟩ := trodVars_none hV
  have k0 := h0
  have lt0 : ∀ x ∈ p0, x.block < W.heap.size := by obtain ⟨m, hm⟩ := k0; exact DataW.trod_lt m _ _ _ hm
  obtain ⟨a0, rfl, _, _, wf0⟩ := open_int Try.underlying2 (hval 0 2 v0 rfl rfl) h0
  have k1 := h1
  have lt1 : ∀ x ∈ p1, x.block < W.heap.size := by obtain ⟨m, hm⟩ := k1; exact DataW.trod_lt m _ _ _ hm
  obtain ⟨a1, len1, cap1, rfl⟩ := okWide_slice Try.underlying31 (hval 1 31 v1 rfl rfl)
  obtain ⟨z1, w1⟩ : ∃ zs, IsRow .i64 W a1 len1 cap1 zs := by
    obtain ⟨fuel, hf⟩ := h1
    rcases open_ints Try.underlying31 Try.underlying2 (by kernel_rfl) hf with ⟨hcs, _⟩ | ⟨x, l, c, zs, hcs, _, hl, hm, hz, _, hcell, hwz⟩
    · simp [Value.cells] at hcs
      obtain ⟨rfl, rfl, rfl⟩ := hcs
      exact ⟨[], .inl ⟨rfl, rfl, rfl, rfl⟩⟩
    · simp [Value.cells] at hcs
      obtain ⟨rfl, rfl, rfl⟩ := hcs
      exact ⟨zs, .inr ⟨_, rfl, hl, hm, by simpa using hz, hcell, hwz⟩⟩
  clear hA0 hval0
  refine (walk a0 a1 len1 cap1 z1 W (bounds_i64 wf0) w1).mono fun e W' ⟨he, bel⟩ => ?_
  subst he
  exact ⟨_, rfl, _, _, _, [], _, [], hW', trodAll_mk1 (shut_bool Try.underlying4 _), (trodAll_cons_mk (Below.trod laidOut (by kernel_rfl) (of_decide_eq_true (by kernel_rfl)) k0 bel lt0) (trodAll_cons_mk (Below.trod laidOut (by kernel_rfl) (of_decide_eq_true (by kernel_rfl)) k1 bel lt1) trodAll_mk0)), rfl, bel.frame _, fun h => by cases h⟩

theorem over : Rows.fnExactDifferentOfRow.holds Try.pinned (OpenSpec.ofChange Rows.fnExactDifferentOfSpec) :=
  OpenClaim.holds_of_wide 14 Try.f14 rfl rfl rfl rfl rfl rfl rfl ⟨rfl, rfl, rfl, rfl, rfl⟩ rfl rfl rfl rfl rfl (by kernel_rfl) Try.func14 (by kernel_rfl)
    (of_decide_eq_true (by kernel_rfl)) (by unfold Func.isWrapper; first | (rw [if_pos (by decide +kernel)]; kernel_rfl) | (rw [if_neg (by decide +kernel)]; exact ⟨rfl, rfl⟩))
    (fun os started H enc _ => lifted os started H enc)

theorem proved : Rows.FnExactDifferentOfSaid := over
#print axioms proved
end Go.Proofs.Ytjampkjgapkklaa.differentOf
