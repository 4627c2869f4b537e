/- 'laws.FnExactRootsInRing' returns true for all arguments: the program's RootsInRing and the reference's give the same. Conditions: none. -/
import Derived.Test.YtdkppikbneijaaaRows
import Derived.WalkKit
import Derived.ProofKit
import Derived.OpenShut
import Derived.ShutString
import Derived.ChangeOld
import Derived.Below
import Derived.Lib.SmallJoins
import Derived.Test.YtdkppikbneijaaaGl
namespace Go.Proofs.Ytdkppikbneijaaa.rootsInRing
open Go.ChangeShapes Go.WideShapes Go.ChangeAt Go.RowKit
open Go.ChangeMaps (open_string shut_string)
set_option linter.unusedVariables false
set_option linter.unusedSimpArgs false

set_option maxHeartbeats 4000000 in
theorem walk (a0x0 a0x1 : Int) (a1 : Option Addr) (len1 cap1 : Nat) (z1 : List Int) (w : World) (ha0x0 : -9223372036854775808 ≤ a0x0 ∧ a0x0 ≤ 9223372036854775807) (ha0x1 : -9223372036854775808 ≤ a0x1 ∧ a0x1 ≤ 9223372036854775807) (ha1 : IsRow .i64 w a1 len1 cap1 z1) :
    Calls Try.prog 3 #[.agg #[.int .i64 a0x0, .int .i64 a0x1], .slice a1 len1 cap1] w fun e w' => e = .returned (.bool true) ∧ Below w.heap.size w w' := by
  by_cases hbig1 : len1 ≤ 1048576
  case neg =>
    go_enter Try.func3, Try.ntmps3
    go_wp2
    go_ret
    exact ⟨rfl, (by repeat (first | assumption | exact Below.refl _ _ | exact below_box _ | refine Below.drew ?_ | refine Below.setCell ?_ (by first | (simp; done) | (simp; omega)) _ | (refine below_step (by assumption) (by first | omega | (simp; done) | (simp; omega)) ?_) | (refine Below.alloc ?_ (by first | omega | (simp; done) | (simp; omega)) _)))⟩
  obtain ⟨Z1, rfl, hzb1, hr1⟩ := ha1.reads hbig1
  clear ha1
  have B0 := below_box (w := w) (.cells #[.int .i64 a0x0, .int .i64 a0x1] 23)
  have D0 := Below.refl (w.alloc (.cells #[.int .i64 a0x0, .int .i64 a0x1] 23)).heap.size (w.alloc (.cells #[.int .i64 a0x0, .int .i64 a0x1] 23))
  go_enter Try.func3, Try.ntmps3
  go_wp2_with (go_at_call 5; with_reducible refine (toRing_any _ _ _).mono ?_)
  rintro _ w1 ⟨rfl, hb1⟩
  have D1 := D0.trans (hb1.mono D0.size)
  have B1 : Below w.heap.size w w1 := B0.trans (D1.mono B0.size)
  go_wp2_with (go_at_call 6; with_reducible refine (toInt64S_any (hr1.step B1)).mono ?_)
  rintro _ w2 ⟨v2, rfl, o2, hb2⟩
  have D2 := D1.trans (hb2.mono D1.size)
  have B2 : Below w.heap.size w w2 := B0.trans (D2.mono B0.size)
  go_wp2_with (go_at_call 4; with_reducible refine (sRootsInRing_any o2.reads ha0x1.2 ha0x1.1).mono ?_)
  rintro _ w3 ⟨v3, rfl, o3, hb3⟩
  have D3 := D2.trans (hb3.mono D2.size)
  have B3 : Below w.heap.size w w3 := B0.trans (D3.mono B0.size)
  have l3 := o3.1
  go_wp2_with (go_at_call 6; with_reducible refine (toInt64S_any (hr1.step B3)).mono ?_)
  rintro _ w4 ⟨v4, rfl, o4, hb4⟩
  have D4 := D3.trans (hb4.mono D3.size)
  have B4 : Below w.heap.size w w4 := B0.trans (D4.mono B0.size)
  have q4_0_0 : w4.cell? ⟨w.heap.size, 0, none⟩ = some (.int .i64 a0x0) := by rw [D4.cell (p := ⟨w.heap.size, 0, none⟩) (by simp)]; simp
  have q4_0_1 : w4.cell? ⟨w.heap.size, 1, none⟩ = some (.int .i64 a0x1) := by rw [D4.cell (p := ⟨w.heap.size, 1, none⟩) (by simp)]; simp
  go_wp2_with (go_at_call 5; with_reducible refine (toRing_any _ _ _).mono ?_)
  rintro _ w5 ⟨rfl, hb5⟩
  have D5 := D4.trans (hb5.mono D4.size)
  have B5 : Below w.heap.size w w5 := B0.trans (D5.mono B0.size)
  go_wp2_with (go_at_call 7; with_reducible refine (RootsInRing_any (o4.step hb5).reads ha0x1.2 ha0x1.1).mono ?_)
  rintro _ w6 ⟨v6, rfl, o6, hb6⟩
  have D6 := D5.trans (hb6.mono D5.size)
  have B6 : Below w.heap.size w w6 := B0.trans (D6.mono B0.size)
  have l6 := o6.1
  go_wp2_with (go_at_call 8; with_reducible refine (eqInt64S_same o6.reads (((o3.step hb4).step hb5).step hb6).reads).mono ?_)
  rintro _ w7 ⟨rfl, hb7⟩
  have D7 := D6.trans (hb7.mono D6.size)
  have B7 : Below w.heap.size w w7 := B0.trans (D7.mono B0.size)
  go_wp2_with (go_at_call 6; with_reducible refine (toInt64S_any (hr1.step B7)).mono ?_)
  rintro _ w8 ⟨v8, rfl, o8, hb8⟩
  have D8 := D7.trans (hb8.mono D7.size)
  have B8 : Below w.heap.size w w8 := B0.trans (D8.mono B0.size)
  go_wp2_with (go_at_call 8; with_reducible refine (eqInt64S_same ((((o4.step hb5).step hb6).step hb7).step hb8).reads o8.reads).mono ?_)
  rintro _ w9 ⟨rfl, hb9⟩
  have D9 := D8.trans (hb9.mono D8.size)
  have B9 : Below w.heap.size w w9 := B0.trans (D9.mono B0.size)
  go_wp2_with (go_at_call 9; with_reducible refine (markInt64S_any _ (by omega) (by omega) (((((o4.step hb5).step hb6).step hb7).step hb8).step hb9)).mono ?_)
  rintro _ w10 ⟨rfl, o10, hg10⟩
  have D10 := D9.grown hg10 D9.size (fun k hk => by have := (o4.lt k hk).1; have := D3.size; omega)
  have B10 : Below w.heap.size w w10 := B0.trans (D10.mono B0.size)
  go_wp2_with (go_at_call 8; with_reducible refine (eqInt64S_same ((((o6.step hb7).step hb8).step hb9).kept hg10 (own_apart (o4.step hb5) o6)).reads (((((((o3.step hb4).step hb5).step hb6).step hb7).step hb8).step hb9).kept hg10 (own_apart' o3 o4)).reads).mono ?_)
  rintro _ w11 ⟨rfl, hb11⟩
  have D11 := D10.trans (hb11.mono D10.size)
  have B11 : Below w.heap.size w w11 := B0.trans (D11.mono B0.size)
  go_wp2_with (go_at_call 9; with_reducible refine (markInt64S_any _ (by omega) (by omega) (((((o6.step hb7).step hb8).step hb9).kept hg10 (own_apart (o4.step hb5) o6)).step hb11)).mono ?_)
  rintro _ w12 ⟨rfl, o12, hg12⟩
  have D12 := D11.grown hg12 D11.size (fun k hk => by have := (o6.lt k hk).1; have := D5.size; omega)
  have B12 : Below w.heap.size w w12 := B0.trans (D12.mono B0.size)
  go_wp2_with (go_at_call 10; with_reducible refine (heldInt64S_any _ (by omega) (by omega) o12.reads).mono ?_)
  rintro _ _ ⟨rfl, rfl⟩
  have q12_0_0 : w12.cell? ⟨w.heap.size, 0, none⟩ = some (.int .i64 a0x0) := by rw [D12.cell (p := ⟨w.heap.size, 0, none⟩) (by simp)]; simp
  have q12_0_1 : w12.cell? ⟨w.heap.size, 1, none⟩ = some (.int .i64 a0x1) := by rw [D12.cell (p := ⟨w.heap.size, 1, none⟩) (by simp)]; simp
  go_wp2_with (go_at_call 5; with_reducible refine (toRing_any _ _ _).mono ?_)
  rintro _ w13 ⟨rfl, hb13⟩
  have D13 := D12.trans (hb13.mono D12.size)
  have B13 : Below w.heap.size w w13 := B0.trans (D13.mono B0.size)
  go_wp2_with (go_at_call 6; with_reducible refine (toInt64S_any (hr1.step B13)).mono ?_)
  rintro _ w14 ⟨v14, rfl, o14, hb14⟩
  have D14 := D13.trans (hb14.mono D13.size)
  have B14 : Below w.heap.size w w14 := B0.trans (D14.mono B0.size)
  go_wp2_with (go_at_call 7; with_reducible refine (RootsInRing_any o14.reads ha0x1.2 ha0x1.1).mono ?_)
  rintro _ w15 ⟨v15, rfl, o15, hb15⟩
  have D15 := D14.trans (hb15.mono D14.size)
  have B15 : Below w.heap.size w w15 := B0.trans (D15.mono B0.size)
  have l15 := o15.1
  go_wp2_with (go_at_call 8; with_reducible refine (eqInt64S_same o15.reads ((((((((((((o3.step hb4).step hb5).step hb6).step hb7).step hb8).step hb9).kept hg10 (own_apart' o3 o4)).step hb11).kept hg12 (own_apart' ((o3.step hb4).step hb5) o6)).step hb13).step hb14).step hb15).reads).mono ?_)
  rintro _ w16 ⟨rfl, hb16⟩
  have D16 := D15.trans (hb16.mono D15.size)
  have B16 : Below w.heap.size w w16 := B0.trans (D16.mono B0.size)
  go_wp2_with (go_at_call 10; with_reducible refine (heldInt64S_any _ (by omega) (by omega) ((((o12.step hb13).step hb14).step hb15).step hb16).reads).mono ?_)
  rintro _ _ ⟨rfl, rfl⟩
  go_wp2
  go_ret
  exact ⟨rfl, B16⟩

theorem own : ownKnob Try.prog.godebug = none := by kernel_rfl
theorem laidOut : laidOutB Try.prog = true := by kernel_rfl
theorem cells23 : Try.prog.cellsOf 23 = 2 := by kernel_rfl

set_option maxRecDepth 100000 in
theorem lifted (os : Os) (started : os.Started) (H : Type) (enc : TypeId × Value → H) :
    ReturnsInHanded {} Try.checked os 3 .any (Rows.fnExactRootsInRingSpec.pre6 enc Try.prog Try.f3 Rows.fnExactRootsInRingRow.domain false) (Rows.fnExactRootsInRingSpec.post enc Try.prog Try.f3 false true false false) := by
  refine returnsInHanded_of_change (C := Try.checked) own started (by kernel_rfl) Try.func3
    (ChangeSpec.witness6 (enc := enc) (C := Try.checked) false ⟨#[], #[.agg #[.int .i64 0, .int .i64 0], .slice none 0 0], []⟩ 8 (by kernel_rfl) (by kernel_rfl) (by kernel_rfl) (by kernel_rfl)) ?_
  intro W base args ds gs before hval0 hW hcnd _
  have hval : ∀ (j : Nat) t v, Try.f3.params[j]? = some t → args[j]? = some v → Value.okWide Try.prog W .any base t v := hval0
  have hW' := hW
  obtain ⟨p, q, hA0, hV, rfl, hfz, hnd⟩ := hW
  have hA : DataW.TrodAll enc Try.prog W 0 (fun _ => true) true Try.f3.params.toList args.toList ds p := hA0
  rw [Try.params3] at hA hval
  obtain ⟨v0, vs0, d0, ds0, p0, q0, hargs, rfl, rfl, h0, r0⟩ := trodAll_cons hA
  obtain ⟨v1, vs1, d1, ds1, p1, q1, rfl, rfl, rfl, h1, r1⟩ := trodAll_cons r0
  obtain ⟨rfl, rfl, rfl⟩ := trodAll_nil r1
  obtain rfl : args = #[v0, v1] := by cases args; simp_all
  obtain ⟨rfl, rfl⟩ := trodVars_none hV
  have k0 := h0
  have lt0 : ∀ x ∈ p0, x.block < W.heap.size := by obtain ⟨m, hm⟩ := k0; exact DataW.trod_lt m _ _ _ hm
  obtain ⟨c0x0, c0x1, y0x0, y0x1, m0, rfl, _, _, hy0x0, hy0x1⟩ := Joins.open_agg2 Try.underlying23 (by kernel_rfl) cells23 (hval 0 23 v0 rfl rfl) h0
  obtain ⟨a0x0, e0x0, _, wf0x0⟩ := DataW.trod_int Try.underlying2 hy0x0
  simp at e0x0; subst e0x0
  obtain ⟨a0x1, e0x1, _, wf0x1⟩ := DataW.trod_int Try.underlying2 hy0x1
  simp at e0x1; subst e0x1
  have k1 := h1
  have lt1 : ∀ x ∈ p1, x.block < W.heap.size := by obtain ⟨m, hm⟩ := k1; exact DataW.trod_lt m _ _ _ hm
  obtain ⟨a1, len1, cap1, rfl⟩ := okWide_slice Try.underlying24 (hval 1 24 v1 rfl rfl)
  obtain ⟨z1, w1⟩ : ∃ zs, IsRow .i64 W a1 len1 cap1 zs := by
    obtain ⟨fuel, hf⟩ := h1
    rcases open_ints Try.underlying24 Try.underlying2 (by kernel_rfl) hf with ⟨hcs, _⟩ | ⟨x, l, c, zs, hcs, _, hl, hm, hz, _, hcell, hwz⟩
    · simp [Value.cells] at hcs
      obtain ⟨rfl, rfl, rfl⟩ := hcs
      exact ⟨[], .inl ⟨rfl, rfl, rfl, rfl⟩⟩
    · simp [Value.cells] at hcs
      obtain ⟨rfl, rfl, rfl⟩ := hcs
      exact ⟨zs, .inr ⟨_, rfl, hl, hm, by simpa using hz, hcell, hwz⟩⟩
  clear hA0 hval0
  refine (walk a0x0 a0x1 a1 len1 cap1 z1 W (bounds_i64 wf0x0) (bounds_i64 wf0x1) w1).mono fun e W' ⟨he, bel⟩ => ?_
  subst he
  exact ⟨_, rfl, _, _, _, [], _, [], hW', trodAll_mk1 (shut_bool Try.underlying4 _), (trodAll_cons_mk (Below.trod laidOut (by kernel_rfl) (of_decide_eq_true (by kernel_rfl)) k0 bel lt0) (trodAll_cons_mk (Below.trod laidOut (by kernel_rfl) (of_decide_eq_true (by kernel_rfl)) k1 bel lt1) trodAll_mk0)), rfl, bel.frame _, fun h => by cases h⟩

theorem over : Rows.fnExactRootsInRingRow.holds Try.pinned (OpenSpec.ofChange Rows.fnExactRootsInRingSpec) :=
  OpenClaim.holds_of_wide 3 Try.f3 rfl rfl rfl rfl rfl rfl rfl ⟨rfl, rfl, rfl, rfl, rfl⟩ rfl rfl rfl rfl rfl (by kernel_rfl) Try.func3 (by kernel_rfl)
    (of_decide_eq_true (by kernel_rfl)) (by unfold Func.isWrapper; first | (rw [if_pos (by decide +kernel)]; kernel_rfl) | (rw [if_neg (by decide +kernel)]; exact ⟨rfl, rfl⟩))
    (fun os started H enc _ => lifted os started H enc)

theorem proved : Rows.FnExactRootsInRingSaid := over
#print axioms proved
end Go.Proofs.Ytdkppikbneijaaa.rootsInRing
