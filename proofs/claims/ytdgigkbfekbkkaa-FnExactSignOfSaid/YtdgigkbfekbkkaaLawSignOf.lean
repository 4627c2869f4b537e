/- 'laws.FnExactSignOf' returns true for all arguments: the program's SignOf and the reference's give the same. Conditions: none. -/
import Derived.Test.YtdgigkbfekbkkaaRows
import Derived.WalkKit
import Derived.ProofKit
import Derived.OpenShut
import Derived.ShutString
import Derived.ChangeOld
import Derived.Below
import Derived.Lib.SmallJoins
import Derived.Test.YtdgigkbfekbkkaaX
namespace Go.Proofs.Ytdgigkbfekbkkaa.signOf
open Go.ChangeShapes Go.WideShapes Go.ChangeAt Go.RowKit
open Go.ChangeMaps (open_string shut_string)
set_option linter.unusedVariables false
set_option linter.unusedSimpArgs false

def val (zs : List Int) : Int := if permB zs then signL zs else 0
def code (zs : List Int) : Int := if permB zs then 0 else 1
set_option maxHeartbeats 1000000 in
theorem spec_any {v : Value} {zs : List Int} {w : World} (h : Reads w v zs) : Calls Try.prog 26 #[v] w fun e w' => e = .returned (.tuple #[.int .i64 (val zs), .int .i64 (code zs)]) ∧ Below w.heap.size w w' := by
  have HR := Lib.hid h
  rcases Bool.eq_false_or_eq_true (permB zs) with hp | hp
  · have HP := Lib.hid hp; clear hp h
    go_enter Try.func26, Try.ntmps26
    go_wp2_with (go_at_call 12; with_reducible refine (calls_bool (sIsPermutation_any HR.out) HP.out).mono ?_)
    rintro _ w1 ⟨rfl, hb1⟩
    go_wp2_with (go_at_call 55; with_reducible refine (l21Sign_any (HR.out.step hb1) HP.out).mono ?_)
    rintro _ w2 ⟨rfl, hb2⟩
    go_wp2
    go_ret2
    exact ⟨ret2 (by simp [val, HP.out]) (by simp [code, HP.out]), hb1.trans (hb2.mono hb1.size)⟩
  · have HP := Lib.hid hp; clear hp h
    go_enter Try.func26, Try.ntmps26
    go_wp2_with (go_at_call 12; with_reducible refine (calls_bool (sIsPermutation_any HR.out) HP.out).mono ?_)
    rintro _ w1 ⟨rfl, hb1⟩
    go_wp2
    go_ret2
    exact ⟨ret2 (by simp [val, HP.out]) (by simp [code, HP.out]), hb1⟩
set_option maxHeartbeats 1000000 in
theorem impl_any {v : Value} {zs : List Int} {w : World} (h : Reads w v zs) : Calls Try.prog 27 #[v] w fun e w' => e = .returned (.tuple #[.int .i64 (val zs), .int .i64 (code zs)]) ∧ Below w.heap.size w w' := by
  have HR := Lib.hid h
  rcases Bool.eq_false_or_eq_true (permB zs) with hp | hp
  · have HP := Lib.hid hp; clear hp h
    go_enter Try.func27, Try.ntmps27
    go_wp2_with (go_at_call 14; with_reducible refine (calls_bool (IsPermutation_any HR.out) HP.out).mono ?_)
    rintro _ _ ⟨rfl, rfl⟩
    go_wp2_with (go_at_call 56; with_reducible refine (parity_any HR.out HP.out).mono ?_)
    rintro _ w2 ⟨rfl, hb2⟩
    go_wp2
    go_ret2
    exact ⟨ret2 (by simp [val, HP.out]) (by simp [code, HP.out]), hb2⟩
  · have HP := Lib.hid hp; clear hp h
    go_enter Try.func27, Try.ntmps27
    go_wp2_with (go_at_call 14; with_reducible refine (calls_bool (IsPermutation_any HR.out) HP.out).mono ?_)
    rintro _ _ ⟨rfl, rfl⟩
    go_wp2
    go_ret2
    exact ⟨ret2 (by simp [val, HP.out]) (by simp [code, HP.out]), Below.refl _ _⟩

set_option maxHeartbeats 4000000 in
theorem walk (a0 : Option Addr) (len0 cap0 : Nat) (z0 : List Int) (w : World) (ha0 : IsRow .i64 w a0 len0 cap0 z0) :
    Calls Try.prog 8 #[.slice a0 len0 cap0] w fun e w' => e = .returned (.bool true) ∧ Below w.heap.size w w' := by
  by_cases hbig0 : len0 ≤ 1048576
  case neg =>
    go_enter Try.func8, Try.ntmps8
    go_wp2
    go_ret
    exact ⟨rfl, Below.refl _ _⟩
  obtain ⟨Z0, rfl, hzb0, hr0⟩ := ha0.reads hbig0
  clear ha0
  have B0 : Below w.heap.size w w := Below.refl _ _
  go_enter Try.func8, Try.ntmps8
  go_wp2_with (go_at_call 13; with_reducible refine (toInt64S_any hr0).mono ?_)
  rintro _ w1 ⟨v1, rfl, o1, hb1⟩
  have B1 : Below w.heap.size w w1 := B0.trans (hb1.mono B0.size)
  go_wp2_with (go_at_call 26; with_reducible refine (spec_any o1.reads).mono ?_)
  rintro _ w2 ⟨rfl, hb2⟩
  have B2 : Below w.heap.size w w2 := B1.trans (hb2.mono B1.size)
  go_wp2_with (go_at_call 13; with_reducible refine (toInt64S_any (hr0.step B2)).mono ?_)
  rintro _ w3 ⟨v3, rfl, o3, hb3⟩
  have B3 : Below w.heap.size w w3 := B2.trans (hb3.mono B2.size)
  go_wp2_with (go_at_call 27; with_reducible refine (impl_any o3.reads).mono ?_)
  rintro _ w4 ⟨rfl, hb4⟩
  have B4 : Below w.heap.size w w4 := B3.trans (hb4.mono B3.size)
  go_wp2_with (go_at_call 13; with_reducible refine (toInt64S_any (hr0.step B4)).mono ?_)
  rintro _ w5 ⟨v5, rfl, o5, hb5⟩
  have B5 : Below w.heap.size w w5 := B4.trans (hb5.mono B4.size)
  go_wp2_with (go_at_call 15; with_reducible refine (eqInt64S_same ((o3.step hb4).step hb5).reads o5.reads).mono ?_)
  rintro _ w6 ⟨rfl, hb6⟩
  have B6 : Below w.heap.size w w6 := B5.trans (hb6.mono B5.size)
  go_wp2
  go_ret
  exact ⟨rfl, B6⟩

theorem own : ownKnob Try.prog.godebug = none := by kernel_rfl
theorem laidOut : laidOutB Try.prog = true := by kernel_rfl

set_option maxRecDepth 100000 in
theorem lifted (os : Os) (started : os.Started) (H : Type) (enc : TypeId × Value → H) :
    ReturnsInHanded {} Try.checked os 8 .any (Rows.fnExactSignOfSpec.pre6 enc Try.prog Try.f8 Rows.fnExactSignOfRow.domain false) (Rows.fnExactSignOfSpec.post enc Try.prog Try.f8 false true false false) := by
  refine returnsInHanded_of_change (C := Try.checked) own started (by kernel_rfl) Try.func8
    (ChangeSpec.witness6 (enc := enc) (C := Try.checked) false ⟨#[], #[.slice none 0 0], []⟩ 8 (by kernel_rfl) (by kernel_rfl) (by kernel_rfl) (by kernel_rfl)) ?_
  intro W base args ds gs before hval0 hW hcnd _
  have hval : ∀ (j : Nat) t v, Try.f8.params[j]? = some t → args[j]? = some v → Value.okWide Try.prog W .any base t v := hval0
  have hW' := hW
  obtain ⟨p, q, hA0, hV, rfl, hfz, hnd⟩ := hW
  have hA : DataW.TrodAll enc Try.prog W 0 (fun _ => true) true Try.f8.params.toList args.toList ds p := hA0
  rw [Try.params8] at hA hval
  obtain ⟨v0, vs0, d0, ds0, p0, q0, hargs, rfl, rfl, h0, r0⟩ := trodAll_cons hA
  obtain ⟨rfl, rfl, rfl⟩ := trodAll_nil r0
  obtain rfl : args = #[v0] := by cases args; simp_all
  obtain ⟨rfl, rfl⟩ := trodVars_none hV
  have k0 := h0
  have lt0 : ∀ x ∈ p0, x.block < W.heap.size := by obtain ⟨m, hm⟩ := k0; exact DataW.trod_lt m _ _ _ hm
  obtain ⟨a0, len0, cap0, rfl⟩ := okWide_slice Try.underlying22 (hval 0 22 v0 rfl rfl)
  obtain ⟨z0, w0⟩ : ∃ zs, IsRow .i64 W a0 len0 cap0 zs := by
    obtain ⟨fuel, hf⟩ := h0
    rcases open_ints Try.underlying22 Try.underlying2 (by kernel_rfl) hf with ⟨hcs, _⟩ | ⟨x, l, c, zs, hcs, _, hl, hm, hz, _, hcell, hwz⟩
    · simp [Value.cells] at hcs
      obtain ⟨rfl, rfl, rfl⟩ := hcs
      exact ⟨[], .inl ⟨rfl, rfl, rfl, rfl⟩⟩
    · simp [Value.cells] at hcs
      obtain ⟨rfl, rfl, rfl⟩ := hcs
      exact ⟨zs, .inr ⟨_, rfl, hl, hm, by simpa using hz, hcell, hwz⟩⟩
  clear hA0 hval0
  refine (walk a0 len0 cap0 z0 W w0).mono fun e W' ⟨he, bel⟩ => ?_
  subst he
  exact ⟨_, rfl, _, _, _, [], _, [], hW', trodAll_mk1 (shut_bool Try.underlying4 _), (trodAll_cons_mk (Below.trod laidOut (by kernel_rfl) (of_decide_eq_true (by kernel_rfl)) k0 bel lt0) trodAll_mk0), rfl, bel.frame _, fun h => by cases h⟩

theorem over : Rows.fnExactSignOfRow.holds Try.pinned (OpenSpec.ofChange Rows.fnExactSignOfSpec) :=
  OpenClaim.holds_of_wide 8 Try.f8 rfl rfl rfl rfl rfl rfl rfl ⟨rfl, rfl, rfl, rfl, rfl⟩ rfl rfl rfl rfl rfl (by kernel_rfl) Try.func8 (by kernel_rfl)
    (of_decide_eq_true (by kernel_rfl)) (by unfold Func.isWrapper; first | (rw [if_pos (by decide +kernel)]; kernel_rfl) | (rw [if_neg (by decide +kernel)]; exact ⟨rfl, rfl⟩))
    (fun os started H enc _ => lifted os started H enc)

theorem proved : Rows.FnExactSignOfSaid := over
#print axioms proved
end Go.Proofs.Ytdgigkbfekbkkaa.signOf
