/- 'laws.FnExactCountRootsInRing' returns true for all arguments: the program's CountRootsInRing and the reference's give the same. Conditions: none. -/
import Derived.Test.YtekgafnidanihaaRows
import Derived.WalkKit
import Derived.ProofKit
import Derived.OpenShut
import Derived.ShutString
import Derived.ChangeOld
import Derived.Below
import Derived.Lib.SmallJoins
import Derived.Test.YtekgafnidanihaaGh
namespace Go.Proofs.Ytekgafnidanihaa.countRoots
open Go.ChangeShapes Go.WideShapes Go.ChangeAt Go.RowKit
open Go.ChangeMaps (open_string shut_string)
set_option linter.unusedVariables false
set_option linter.unusedSimpArgs false

set_option maxHeartbeats 4000000 in
theorem walk (a0x0 a0x1 : Int) (a1 : Option Addr) (len1 cap1 : Nat) (z1 : List Int) (w : World) (ha0x0 : -9223372036854775808 ≤ a0x0 ∧ a0x0 ≤ 9223372036854775807) (ha0x1 : -9223372036854775808 ≤ a0x1 ∧ a0x1 ≤ 9223372036854775807) (ha1 : IsRow .i64 w a1 len1 cap1 z1) :
    Calls Try.prog 3 #[.agg #[.int .i64 a0x0, .int .i64 a0x1], .slice a1 len1 cap1] w fun e w' => e = .returned (.bool true) ∧ Below w.heap.size w w' := by
  by_cases hbig1 : len1 ≤ 1048576
  case neg =>
    go_enter Try.func3, Try.ntmps3
    go_wp2
    go_ret
    exact ⟨rfl, (by repeat (first | assumption | exact Below.refl _ _ | exact below_box _ | refine Below.drew ?_ | refine Below.setCell ?_ (by first | (simp; done) | (simp; omega)) _ | (refine below_step (by assumption) (by first | omega | (simp; done) | (simp; omega)) ?_) | (refine Below.alloc ?_ (by first | omega | (simp; done) | (simp; omega)) _)))⟩
  obtain ⟨Z1, rfl, hzb1, hr1⟩ := ha1.reads hbig1
  clear ha1
  have B0 := below_box (w := w) (.cells #[.int .i64 a0x0, .int .i64 a0x1] 23)
  have D0 := Below.refl (w.alloc (.cells #[.int .i64 a0x0, .int .i64 a0x1] 23)).heap.size (w.alloc (.cells #[.int .i64 a0x0, .int .i64 a0x1] 23))
  go_enter Try.func3, Try.ntmps3
  go_wp2_with (go_at_call 5; with_reducible refine (toRing_any _ _ _).mono ?_)
  rintro _ w1 ⟨rfl, hb1⟩
  have D1 := D0.trans (hb1.mono D0.size)
  have B1 : Below w.heap.size w w1 := B0.trans (D1.mono B0.size)
  go_wp2_with (go_at_call 6; with_reducible refine (toInt64S_any (hr1.step B1)).mono ?_)
  rintro _ w2 ⟨v2, rfl, o2, hb2⟩
  have D2 := D1.trans (hb2.mono D1.size)
  have B2 : Below w.heap.size w w2 := B0.trans (D2.mono B0.size)
  go_wp2_with (go_at_call 4; with_reducible refine (sCountRootsInRing_any o2.reads ha0x1.2 ha0x1.1).mono ?_)
  rintro _ w3 ⟨rfl, hb3⟩
  have D3 := D2.trans (hb3.mono D2.size)
  have B3 : Below w.heap.size w w3 := B0.trans (D3.mono B0.size)
  go_wp2_with (go_at_call 6; with_reducible refine (toInt64S_any (hr1.step B3)).mono ?_)
  rintro _ w4 ⟨v4, rfl, o4, hb4⟩
  have D4 := D3.trans (hb4.mono D3.size)
  have B4 : Below w.heap.size w w4 := B0.trans (D4.mono B0.size)
  have q4_0_0 : w4.cell? ⟨w.heap.size, 0, none⟩ = some (.int .i64 a0x0) := by rw [D4.cell (p := ⟨w.heap.size, 0, none⟩) (by simp)]; simp
  have q4_0_1 : w4.cell? ⟨w.heap.size, 1, none⟩ = some (.int .i64 a0x1) := by rw [D4.cell (p := ⟨w.heap.size, 1, none⟩) (by simp)]; simp
  go_wp2_with (go_at_call 5; with_reducible refine (toRing_any _ _ _).mono ?_)
  rintro _ w5 ⟨rfl, hb5⟩
  have D5 := D4.trans (hb5.mono D4.size)
  have B5 : Below w.heap.size w w5 := B0.trans (D5.mono B0.size)
  go_wp2_with (go_at_call 7; with_reducible refine (CountRootsInRing_any (o4.step hb5).reads ha0x1.2 ha0x1.1).mono ?_)
  rintro _ w6 ⟨rfl, hb6⟩
  have D6 := D5.trans (hb6.mono D5.size)
  have B6 : Below w.heap.size w w6 := B0.trans (D6.mono B0.size)
  go_wp2_with (go_at_call 6; with_reducible refine (toInt64S_any (hr1.step B6)).mono ?_)
  rintro _ w7 ⟨v7, rfl, o7, hb7⟩
  have D7 := D6.trans (hb7.mono D6.size)
  have B7 : Below w.heap.size w w7 := B0.trans (D7.mono B0.size)
  go_wp2_with (go_at_call 8; with_reducible refine (eqInt64S_same (((o4.step hb5).step hb6).step hb7).reads o7.reads).mono ?_)
  rintro _ w8 ⟨rfl, hb8⟩
  have D8 := D7.trans (hb8.mono D7.size)
  have B8 : Below w.heap.size w w8 := B0.trans (D8.mono B0.size)
  go_wp2
  go_ret
  exact ⟨rfl, B8⟩

theorem own : ownKnob Try.prog.godebug = none := by kernel_rfl
theorem laidOut : laidOutB Try.prog = true := by kernel_rfl
theorem cells23 : Try.prog.cellsOf 23 = 2 := by kernel_rfl

set_option maxRecDepth 100000 in
theorem lifted (os : Os) (started : os.Started) (H : Type) (enc : TypeId × Value → H) :
    ReturnsInHanded {} Try.checked os 3 .any (Rows.fnExactCountRootsInRingSpec.pre6 enc Try.prog Try.f3 Rows.fnExactCountRootsInRingRow.domain false) (Rows.fnExactCountRootsInRingSpec.post enc Try.prog Try.f3 false true false false) := by
  refine returnsInHanded_of_change (C := Try.checked) own started (by kernel_rfl) Try.func3
    (ChangeSpec.witness6 (enc := enc) (C := Try.checked) false ⟨#[], #[.agg #[.int .i64 0, .int .i64 0], .slice none 0 0], []⟩ 8 (by kernel_rfl) (by kernel_rfl) (by kernel_rfl) (by kernel_rfl)) ?_
  intro W base args ds gs before hval0 hW hcnd _
  have hval : ∀ (j : Nat) t v, Try.f3.params[j]? = some t → args[j]? = some v → Value.okWide Try.prog W .any base t v := hval0
  have hW' := hW
  obtain ⟨p, q, hA0, hV, rfl, hfz, hnd⟩ := hW
  have hA : DataW.TrodAll enc Try.prog W 0 (fun _ => true) true Try.f3.params.toList args.toList ds p := hA0
  rw [Try.params3] at hA hval
  obtain ⟨v0, vs0, d0, ds0, p0, q0, hargs, rfl, rfl, h0, r0⟩ := trodAll_cons hA
  obtain ⟨v1, vs1, d1, ds1, p1, q1, rfl, rfl, rfl, h1, r1⟩ := trodAll_cons r0
  obtain ⟨rfl, rfl, rfl⟩ := trodAll_nil r1
  obtain rfl : args = #[v0, v1] := by cases args; simp_all
  obtain ⟨rfl, rfl⟩ := trodVars_none hV
  have k0 := h0
  have lt0 : ∀ x ∈ p0, x.block < W.heap.size := by obtain ⟨m, hm⟩ := k0; exact DataW.trod_lt m _ _ _ hm
  obtain ⟨c0x0, c0x1, y0x0, y0x1, m0, rfl, _, _, hy0x0, hy0x1⟩ := Joins.open_agg2 Try.underlying23 (by kernel_rfl) cells23 (hval 0 23 v0 rfl rfl) h0
  obtain ⟨a0x0, e0x0, _, wf0x0⟩ := DataW.trod_int Try.underlying2 hy0x0
  simp at e0x0; subst e0x0
  obtain ⟨a0x1, e0x1, _, wf0x1⟩ := DataW.trod_int Try.underlying2 hy0x1
  simp at e0x1; subst e0x1
  have k1 := h1
  have lt1 : ∀ x ∈ p1, x.block < W.heap.size := by obtain ⟨m, hm⟩ := k1; exact DataW.trod_lt m _ _ _ hm
  obtain ⟨a1, len1, cap1, rfl⟩ := okWide_slice Try.underlying24 (hval 1 24 v1 rfl rfl)
  obtain ⟨z1, w1⟩ : ∃ zs, IsRow .i64 W a1 len1 cap1 zs := by
    obtain ⟨fuel, hf⟩ := h1
    rcases open_ints Try.underlying24 Try.underlying2 (by kernel_rfl) hf with ⟨hcs, _⟩ | ⟨x, l, c, zs, hcs, _, hl, hm, hz, _, hcell, hwz⟩
    · simp [Value.cells] at hcs
      obtain ⟨rfl, rfl, rfl⟩ := hcs
      exact ⟨[], .inl ⟨rfl, rfl, rfl, rfl⟩⟩
    · simp [Value.cells] at hcs
      obtain ⟨rfl, rfl, rfl⟩ := hcs
      exact ⟨zs, .inr ⟨_, rfl, hl, hm, by simpa using hz, hcell, hwz⟩⟩
  clear hA0 hval0
  refine (walk a0x0 a0x1 a1 len1 cap1 z1 W (bounds_i64 wf0x0) (bounds_i64 wf0x1) w1).mono fun e W' ⟨he, bel⟩ => ?_
  subst he
  exact ⟨_, rfl, _, _, _, [], _, [], hW', trodAll_mk1 (shut_bool Try.underlying4 _), (trodAll_cons_mk (Below.trod laidOut (by kernel_rfl) (of_decide_eq_true (by kernel_rfl)) k0 bel lt0) (trodAll_cons_mk (Below.trod laidOut (by kernel_rfl) (of_decide_eq_true (by kernel_rfl)) k1 bel lt1) trodAll_mk0)), rfl, bel.frame _, fun h => by cases h⟩

theorem over : Rows.fnExactCountRootsInRingRow.holds Try.pinned (OpenSpec.ofChange Rows.fnExactCountRootsInRingSpec) :=
  OpenClaim.holds_of_wide 3 Try.f3 rfl rfl rfl rfl rfl rfl rfl ⟨rfl, rfl, rfl, rfl, rfl⟩ rfl rfl rfl rfl rfl (by kernel_rfl) Try.func3 (by kernel_rfl)
    (of_decide_eq_true (by kernel_rfl)) (by unfold Func.isWrapper; first | (rw [if_pos (by decide +kernel)]; kernel_rfl) | (rw [if_neg (by decide +kernel)]; exact ⟨rfl, rfl⟩))
    (fun os started H enc _ => lifted os started H enc)

theorem proved : Rows.FnExactCountRootsInRingSaid := over
#print axioms proved
end Go.Proofs.Ytekgafnidanihaa.countRoots
