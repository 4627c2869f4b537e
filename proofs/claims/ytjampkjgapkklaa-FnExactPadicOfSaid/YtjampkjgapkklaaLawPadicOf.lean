/- 'laws.FnExactPadicOf' returns true for all arguments: the program's PadicOf and the reference's give the same. Conditions: none. -/
import Derived.Test.YtjampkjgapkklaaRows
import Derived.WalkKit
import Derived.ProofKit
import Derived.OpenShut
import Derived.ShutString
import Derived.ChangeOld
import Derived.Below
import Derived.Lib.SmallJoins
import Derived.Test.YtjampkjgapkklaaEc
import Derived.Deep.RegionWith
import Derived.Deep.CutRange
namespace Go.Proofs.Ytjampkjgapkklaa.padicOf
open Go.ChangeShapes Go.WideShapes Go.ChangeAt Go.RowKit
open Go.ChangeMaps (open_string shut_string)
set_option linter.unusedVariables false
set_option linter.unusedSimpArgs false

theorem toRational_any (p n : Int) (w : World) :
    Calls Try.prog 42 #[.agg #[.int .i64 p, .int .i64 n]] w fun e w' => e = .returned (.agg #[.int .i64 p, .int .i64 n]) ∧ Below w.heap.size w w' := by
  go_enter Try.func42, Try.ntmps42
  go_wp2
  refine bodyPost_ret (v := .agg #[.int .i64 p, .int .i64 n]) (by simp [results, Try.results42, go_sem, ↓IntWalk.iteOmega]) rfl ?_
  exact ⟨rfl, ((below_box _).alloc (by simp) _).alloc (by simp; omega) _⟩

theorem below_up {B : Nat} {w0 W w1 : World} (h : Below W.heap.size W w1) (hB : B ≤ W.heap.size) (h0 : Below B w0 W) : Below B w0 w1 := h0.trans (h.mono hB)
set_option maxHeartbeats 40000000 in
theorem walk (a0x0 a0x1 : Int) (a1x0 a1x1 : Int) (w : World) (ha0x0 : -9223372036854775808 ≤ a0x0 ∧ a0x0 ≤ 9223372036854775807) (ha0x1 : -9223372036854775808 ≤ a0x1 ∧ a0x1 ≤ 9223372036854775807) (ha1x0 : -9223372036854775808 ≤ a1x0 ∧ a1x0 ≤ 9223372036854775807) (ha1x1 : -9223372036854775808 ≤ a1x1 ∧ a1x1 ≤ 9223372036854775807) :
    Calls Try.prog 13 #[.agg #[.int .i64 a0x0, .int .i64 a0x1], .agg #[.int .i64 a1x0, .int .i64 a1x1]] w fun e w' => e = .returned (.bool true) ∧ Below w.heap.size w w' := by
  have AL := alloc_ite
  go_enter Try.func13, Try.ntmps13
  go_upto_region 1 with fail
  go_cut [5, 6] from 9 to 16 (fun g c wx => ∃ b, g = .pointer (some ⟨b, 0, none⟩) ∧ c = .int .i64 (pofC a1x0 a1x1 a0x0 a0x1) ∧ w.heap.size + 2 ≤ b ∧ b < wx.heap.size ∧ wx.cell? ⟨b, 0, none⟩ = some (.int .i64 (pof0 a1x0 a1x1 a0x0 a0x1)) ∧ wx.cell? ⟨b, 1, none⟩ = some (.int .i64 (pof1 a1x0 a1x1 a0x0 a0x1)) ∧ wx.cell? ⟨b, 2, none⟩ = some (.int .i64 (pof2 a1x0 a1x1 a0x0 a0x1)) ∧ wx.cell? ⟨b, 3, none⟩ = some (.int .i64 (pof3 a1x0 a1x1 a0x0 a0x1)) ∧ Below (w.heap.size + 2) ((w.alloc (.cells #[.int .i64 a0x0, .int .i64 a0x1] 45)).alloc (.cells #[.int .i64 a1x0, .int .i64 a1x1] 47)) wx)
  case first =>
    go_region_with (first | (go_at_call 42; ((with_reducible refine (toRational_any _ _ _).mono ?_); rintro e w1_hb0 ⟨rfl, hb0⟩; obtain ⟨chb0, fhb0, shb0⟩ := bfacts2 hb0; (try simp at shb0))) | (go_at_call 43; ((with_reducible refine (toRing_any _ _ _).mono ?_); rintro e w1_hb1 ⟨rfl, hb1⟩; obtain ⟨chb1, fhb1, shb1⟩ := bfacts2 hb1; (try simp at shb1))) | (go_at_call 41; ((with_reducible refine (sPadicOf_any _ _ _ _ _ ha1x1.2 ha1x1.1).mono ?_); rintro e w1_hb2 ⟨rfl, hb2⟩; obtain ⟨chb2, fhb2, shb2⟩ := bfacts2 hb2; (try simp at shb2))))
    all_goals
      go_wp2_with fail
      go_meet
      refine ⟨_, rfl, rfl, ?_, ?_, ?_, ?_, ?_, ?_, ?_⟩
      · first | (simp; omega) | omega | (simp; done)
      · first | (simp; omega) | omega | (simp; done)
      · simp [*, alloc_ite, set_ite, go_sem, ↓IntWalk.iteOmega]
      · simp [*, alloc_ite, set_ite, go_sem, ↓IntWalk.iteOmega]
      · simp [*, alloc_ite, set_ite, go_sem, ↓IntWalk.iteOmega]
      · simp [*, alloc_ite, set_ite, go_sem, ↓IntWalk.iteOmega]
      · exact (by repeat (first | assumption | exact Below.refl _ _ | refine Below.drew ?_ | refine Below.setCell ?_ (by first | (simp; done) | (simp; omega) | omega) _ | (refine below_up (by assumption) (by first | omega | (simp; done) | (simp; omega)) ?_) | (refine Below.alloc ?_ (by first | omega | (simp; done) | (simp; omega)) _)))
  case rest =>
    obtain ⟨b, rfl, rfl, k1, k2, x0, x1, x2, x3, hB⟩ := hcut
    have q0 := hB.cell (p := ⟨w.heap.size, 0, none⟩) (by show w.heap.size < w.heap.size + 2; omega)
    have q1 := hB.cell (p := ⟨w.heap.size, 1, none⟩) (by show w.heap.size < w.heap.size + 2; omega)
    have q2 := hB.cell (p := ⟨w.heap.size + 1, 0, none⟩) (by show w.heap.size + 1 < w.heap.size + 2; omega)
    have q3 := hB.cell (p := ⟨w.heap.size + 1, 1, none⟩) (by show w.heap.size + 1 < w.heap.size + 2; omega)
    have qs := hB.size
    simp [alloc_ite] at q0 q1 q2 q3 qs
    have HB := Lib.hid hB
    clear hB
    go_upto_region 2 with fail
    go_cut [7, 8] from 17 to 24 (fun g c wx => ∃ b, g = .pointer (some ⟨b, 0, none⟩) ∧ c = .int .i64 (pofC a1x0 a1x1 a0x0 a0x1) ∧ wx.cell? ⟨b, 0, none⟩ = some (.int .i64 (pof0 a1x0 a1x1 a0x0 a0x1)) ∧ wx.cell? ⟨b, 1, none⟩ = some (.int .i64 (pof1 a1x0 a1x1 a0x0 a0x1)) ∧ wx.cell? ⟨b, 2, none⟩ = some (.int .i64 (pof2 a1x0 a1x1 a0x0 a0x1)) ∧ wx.cell? ⟨b, 3, none⟩ = some (.int .i64 (pof3 a1x0 a1x1 a0x0 a0x1)) ∧ Below wc.heap.size wc wx)
    case first =>
      go_region_with (first | (go_at_call 42; ((with_reducible refine (toRational_any _ _ _).mono ?_); rintro e w1_hb0 ⟨rfl, hb0⟩; obtain ⟨chb0, fhb0, shb0⟩ := bfacts2 hb0; (try simp at shb0))) | (go_at_call 43; ((with_reducible refine (toRing_any _ _ _).mono ?_); rintro e w1_hb1 ⟨rfl, hb1⟩; obtain ⟨chb1, fhb1, shb1⟩ := bfacts2 hb1; (try simp at shb1))) | (go_at_call 44; ((with_reducible refine (PadicOf_any _ _ _ _ _ ha1x1.2 ha1x1.1).mono ?_); rintro e w1_hb2 ⟨rfl, hb2⟩; obtain ⟨chb2, fhb2, shb2⟩ := bfacts2 hb2; (try simp at shb2))))
      all_goals
        go_wp2_with fail
        go_meet
        refine ⟨_, rfl, rfl, ?_, ?_, ?_, ?_, ?_⟩
        · simp [*, alloc_ite, set_ite, go_sem, ↓IntWalk.iteOmega]
        · simp [*, alloc_ite, set_ite, go_sem, ↓IntWalk.iteOmega]
        · simp [*, alloc_ite, set_ite, go_sem, ↓IntWalk.iteOmega]
        · simp [*, alloc_ite, set_ite, go_sem, ↓IntWalk.iteOmega]
        · exact (by repeat (first | assumption | exact Below.refl _ _ | refine Below.drew ?_ | refine Below.setCell ?_ (by first | (simp; done) | (simp; omega) | omega) _ | (refine below_up (by assumption) (by first | omega | (simp; done) | (simp; omega)) ?_) | (refine Below.alloc ?_ (by first | omega | (simp; done) | (simp; omega)) _)))
    case rest =>
      obtain ⟨b', rfl, rfl, y0, y1, y2, y3, hB2⟩ := hcut
      have z0 := (hB2.cell (p := ⟨b, 0, none⟩) k2).trans x0
      have z1 := (hB2.cell (p := ⟨b, 1, none⟩) k2).trans x1
      have z2 := (hB2.cell (p := ⟨b, 2, none⟩) k2).trans x2
      have z3 := (hB2.cell (p := ⟨b, 3, none⟩) k2).trans x3
      have HB2 := Lib.hid hB2
      clear hB2 x0 x1 x2 x3 q0 q1 q2 q3
      go_wp2_with (first | (go_at_call 45; ((with_reducible refine (eqPadic_same _ _ _ _ _).mono ?_); rintro e w1_hb0 ⟨rfl, hb0⟩; obtain ⟨chb0, fhb0, shb0⟩ := bfacts2 hb0; (try simp at shb0))) | (refine wp_region_wext (by kernel_rfl) (by kernel_rfl) ?_; (repeat (go_big_quiet_step (first | (go_at_call 45; with_reducible refine calls_wext (eqPadic_same _ _ _ _ _))))); refine wpQuiet_nil ?_; intro w1_hbq hbq; replace hbq := below_of_wext hbq; obtain ⟨chbq, fhbq, shbq⟩ := bfacts2 hbq; (try simp at shbq)))
      go_ret
      have hW := (below_box (w := w) (.cells #[.int .i64 a0x0, .int .i64 a0x1] 45)).alloc (by simp) (.cells #[.int .i64 a1x0, .int .i64 a1x1] 47)
      have h1 := hW.trans (HB.out.mono (by omega))
      have h2 := h1.trans (HB2.out.mono h1.size)
      exact ⟨rfl, h2.trans (hb0.mono h2.size)⟩

theorem own : ownKnob Try.prog.godebug = none := by kernel_rfl
theorem laidOut : laidOutB Try.prog = true := by kernel_rfl
theorem cells45 : Try.prog.cellsOf 45 = 2 := by kernel_rfl
theorem cells47 : Try.prog.cellsOf 47 = 2 := by kernel_rfl

set_option maxRecDepth 100000 in
theorem lifted (os : Os) (started : os.Started) (H : Type) (enc : TypeId × Value → H) :
    ReturnsInHanded {} Try.checked os 13 .any (Rows.fnExactPadicOfSpec.pre6 enc Try.prog Try.f13 Rows.fnExactPadicOfRow.domain false) (Rows.fnExactPadicOfSpec.post enc Try.prog Try.f13 false true false false) := by
  refine returnsInHanded_of_change (C := Try.checked) own started (by kernel_rfl) Try.func13
    (ChangeSpec.witness6 (enc := enc) (C := Try.checked) false ⟨#[], #[.agg #[.int .i64 0, .int .i64 0], .agg #[.int .i64 0, .int .i64 0]], []⟩ 8 (by kernel_rfl) (by kernel_rfl) (by kernel_rfl) (by kernel_rfl)) ?_
  intro W base args ds gs before hval0 hW hcnd _
  have hval : ∀ (j : Nat) t v, Try.f13.params[j]? = some t → args[j]? = some v → Value.okWide Try.prog W .any base t v := hval0
  have hW' := hW
  obtain ⟨p, q, hA0, hV, rfl, hfz, hnd⟩ := hW
  have hA : DataW.TrodAll enc Try.prog W 0 (fun _ => true) true Try.f13.params.toList args.toList ds p := hA0
  rw [Try.params13] at hA hval
  obtain ⟨v0, vs0, d0, ds0, p0, q0, hargs, rfl, rfl, h0, r0⟩ := trodAll_cons hA
  obtain ⟨v1, vs1, d1, ds1, p1, q1, rfl, rfl, rfl, h1, r1⟩ := trodAll_cons r0
  obtain ⟨rfl, rfl, rfl⟩ := trodAll_nil r1
  obtain rfl : args = #[v0, v1] := by cases args; simp_all
  obtain ⟨rfl, rfl⟩ := trodVars_none hV
  have k0 := h0
  have lt0 : ∀ x ∈ p0, x.block < W.heap.size := by obtain ⟨m, hm⟩ := k0; exact DataW.trod_lt m _ _ _ hm
  obtain ⟨c0x0, c0x1, y0x0, y0x1, m0, rfl, _, _, hy0x0, hy0x1⟩ := Joins.open_agg2 Try.underlying45 (by kernel_rfl) cells45 (hval 0 45 v0 rfl rfl) h0
  obtain ⟨a0x0, e0x0, _, wf0x0⟩ := DataW.trod_int Try.underlying2 hy0x0
  simp at e0x0; subst e0x0
  obtain ⟨a0x1, e0x1, _, wf0x1⟩ := DataW.trod_int Try.underlying2 hy0x1
  simp at e0x1; subst e0x1
  have k1 := h1
  have lt1 : ∀ x ∈ p1, x.block < W.heap.size := by obtain ⟨m, hm⟩ := k1; exact DataW.trod_lt m _ _ _ hm
  obtain ⟨c1x0, c1x1, y1x0, y1x1, m1, rfl, _, _, hy1x0, hy1x1⟩ := Joins.open_agg2 Try.underlying47 (by kernel_rfl) cells47 (hval 1 47 v1 rfl rfl) h1
  obtain ⟨a1x0, e1x0, _, wf1x0⟩ := DataW.trod_int Try.underlying2 hy1x0
  simp at e1x0; subst e1x0
  obtain ⟨a1x1, e1x1, _, wf1x1⟩ := DataW.trod_int Try.underlying2 hy1x1
  simp at e1x1; subst e1x1
  clear hA0 hval0
  refine (walk a0x0 a0x1 a1x0 a1x1 W (bounds_i64 wf0x0) (bounds_i64 wf0x1) (bounds_i64 wf1x0) (bounds_i64 wf1x1)).mono fun e W' ⟨he, bel⟩ => ?_
  subst he
  exact ⟨_, rfl, _, _, _, [], _, [], hW', trodAll_mk1 (shut_bool Try.underlying4 _), (trodAll_cons_mk (Below.trod laidOut (by kernel_rfl) (of_decide_eq_true (by kernel_rfl)) k0 bel lt0) (trodAll_cons_mk (Below.trod laidOut (by kernel_rfl) (of_decide_eq_true (by kernel_rfl)) k1 bel lt1) trodAll_mk0)), rfl, bel.frame _, fun h => by cases h⟩

theorem over : Rows.fnExactPadicOfRow.holds Try.pinned (OpenSpec.ofChange Rows.fnExactPadicOfSpec) :=
  OpenClaim.holds_of_wide 13 Try.f13 rfl rfl rfl rfl rfl rfl rfl ⟨rfl, rfl, rfl, rfl, rfl⟩ rfl rfl rfl rfl rfl (by kernel_rfl) Try.func13 (by kernel_rfl)
    (of_decide_eq_true (by kernel_rfl)) (by unfold Func.isWrapper; first | (rw [if_pos (by decide +kernel)]; kernel_rfl) | (rw [if_neg (by decide +kernel)]; exact ⟨rfl, rfl⟩))
    (fun os started H enc _ => lifted os started H enc)

theorem proved : Rows.FnExactPadicOfSaid := over
#print axioms proved
end Go.Proofs.Ytjampkjgapkklaa.padicOf
