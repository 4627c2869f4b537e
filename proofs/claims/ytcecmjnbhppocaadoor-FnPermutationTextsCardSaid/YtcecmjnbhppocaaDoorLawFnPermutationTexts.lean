/- 'laws.FnPermutationTexts' returns true for all arguments: a permutation is recovered from its text. Conditions: the listed tables of Go's library read as listed (tied to the program's text). -/
import Derived.Test.YtcecmjnbhppocaaDoorRows
import Derived.WalkKit
import Derived.ProofKit
import Derived.OpenShut
import Derived.ShutString
import Derived.ChangeOld
import Derived.Below
import Derived.Lib.SmallJoins
import Derived.Test.YtcecmjnbhppocaaDoorSb
import Derived.Test.YtcecmjnbhppocaaDoorSj
import Derived.Test.YtcecmjnbhppocaaDoorSk
import Derived.Test.YtcecmjnbhppocaaDoorSn
import Derived.Test.YtcecmjnbhppocaaDoorNi
namespace Go.Proofs.YtcecmjnbhppocaaDoor.textsLaw
open Go.ChangeShapes Go.WideShapes Go.ChangeAt Go.RowKit
open Go.ChangeMaps (open_string shut_string)
set_option linter.unusedVariables false
set_option linter.unusedSimpArgs false

set_option maxRecDepth 100000 in
set_option maxHeartbeats 16000000 in
theorem walk (a0 : Option Addr) (len0 cap0 : Nat) (z0 : List Int) (w : World) (ha0 : IsRow .u8 w a0 len0 cap0 z0) (hmax : ∃ mx, w.cell? ⟨0, 0, none⟩ = some (.int .i64 mx)) :
    Calls Tryd.prog 5 #[.slice a0 len0 cap0] w fun e w' => e = .returned (.bool true) ∧ Below w.heap.size w w' := by
  have HMX := Lib.hid hmax
  clear hmax
  by_cases hbig : len0 ≤ 4096
  case neg =>
    go_enter Tryd.func5, Tryd.ntmps5
    go_wp2_with (go_at_call 14; with_reducible refine (big_yes (by omega) ha0.max).mono ?_)
    rintro _ _ ⟨rfl, rfl⟩
    go_wp2
    go_ret
    exact ⟨rfl, Below.refl _ _⟩
  obtain ⟨Z, hZ, hBs⟩ := ha0.bytes (by omega)
  subst hZ
  have HBs := Lib.hid hBs
  clear hBs ha0
  go_enter Tryd.func5, Tryd.ntmps5
  go_wp2_with (go_at_call 14; with_reducible refine (big_no hbig).mono ?_)
  rintro _ _ ⟨rfl, rfl⟩
  go_wp2_with (go_at_call 15; with_reducible refine (DrawPermutationText_any HBs.out).mono ?_)
  rintro _ w1 ⟨xs, x, rfl, o1, hb1⟩
  have HX := Lib.hid o1.reads
  have HB := Lib.hid hb1
  clear o1 hb1
  go_wp2_with (go_at_call 8; with_reducible refine (PermutationText_any HX.out (max_below HMX.out HB.out)).mono ?_)
  rintro _ w2 ⟨rfl, hb2⟩
  replace HX := Lib.hid (HX.out.step hb2)
  replace HB := Lib.hid (HB.out.trans (hb2.mono HB.out.size))
  clear hb2
  go_wp2_with (go_at_call 6; with_reducible refine (sPermutationText_any HX.out).mono ?_)
  rintro _ w3 ⟨rfl, hb3⟩
  replace HX := Lib.hid (HX.out.step hb3)
  replace HB := Lib.hid (HB.out.trans (hb3.mono HB.out.size))
  clear hb3
  have HBs3 := Lib.hid (HBs.out.next HB.out HB.out.size)
  go_wp2_with (go_at_call 16; with_reducible refine (DrawReadPermutation_any HBs3.out).mono ?_)
  rintro _ w4 ⟨l, rfl, hl, hb4⟩
  replace HX := Lib.hid (HX.out.step hb4)
  replace HB := Lib.hid (HB.out.trans (hb4.mono HB.out.size))
  clear hb4 HBs3
  have hl2 : l.length ≤ 1048576 := by omega
  go_wp2_with (go_at_call 11; with_reducible refine (ReadPermutation_any l _ (max_below HMX.out HB.out)).mono ?_)
  rintro _ w5 ⟨y, rfl, o5, hb5⟩
  replace HX := Lib.hid (HX.out.step hb5)
  replace HB := Lib.hid (HB.out.trans (hb5.mono HB.out.size))
  have HY := Lib.hid o5.reads
  clear o5 hb5
  go_wp2_with (go_at_call 10; with_reducible refine (sReadPermutation_any l hl2 _).mono ?_)
  rintro _ w6 ⟨z, rfl, o6, hb6⟩
  replace HX := Lib.hid (HX.out.step hb6)
  replace HY := Lib.hid (HY.out.step hb6)
  replace HB := Lib.hid (HB.out.trans (hb6.mono HB.out.size))
  have HZ := Lib.hid o6.reads
  clear o6 hb6
  have fl : ((bs l).toList == (bs l).toList) = true := by simp
  have HCS := Lib.hid (rdO_cases l)
  have HPX := Lib.hid (fun h => rdO_some (zs := xs) h rfl)
  have HPC := Lib.hid (show ptC xs = if permB xs then 0 else 1 from rfl)
  have HPT := Lib.hid (show ptT xs = if permB xs then txtL xs else [] from rfl)
  obtain ⟨C, hC⟩ : ∃ C, ptC xs = C := ⟨_, rfl⟩
  obtain ⟨T, hT⟩ : ∃ T, ptT xs = T := ⟨_, rfl⟩
  obtain ⟨R, hR⟩ : ∃ R, (rdO l).1 = R := ⟨_, rfl⟩
  obtain ⟨D, hD⟩ : ∃ D, (rdO l).2 = D := ⟨_, rfl⟩
  rw [hC, hT, hD]
  rw [hR] at HY HZ
  rw [hC] at HPC
  rw [hT] at HPT
  have HRD := Lib.hid (show (∃ zs, permB zs = true ∧ txtL zs = l ∧ R = zs ∧ D = 0) ∨ D = 6 by
    rcases HCS.out with ⟨zs, h1, h2, h3⟩ | h3
    · exact .inl ⟨zs, h1, h2, by rw [← hR, h3], by rw [← hD, h3]⟩
    · exact .inr (by rw [← hD, h3]))
  clear hC hT hR hD HCS
  have fT : ((bs T).toList == (bs T).toList) = true := by simp
  rcases Bool.eq_false_or_eq_true (permB xs) with hp | hp
  · have hC0 : C = 0 := by rw [HPC.out, if_pos hp]
    have hTx : txtL xs = T := by rw [HPT.out, if_pos hp]
    have HXR := Lib.hid (show rdO T = (xs, 0) by rw [← hTx]; exact HPX.out hp)
    subst hC0
    clear hp hTx HPC HPT HPX
    rcases HRD.out with ⟨zs, h1, h2, h3, h4⟩ | h4
    · subst h3; subst h4
      have HZC := Lib.hid (show ptC R = 0 by unfold ptC; rw [if_pos h1])
      have HZT := Lib.hid (show ptT R = l by unfold ptT; rw [if_pos h1]; exact h2)
      clear h1 h2 HRD
      go_wp2_with (go_at_call 17; with_reducible refine (likeInts_same HY.out HZ.out).mono ?_)
      rintro _ w7 ⟨rfl, hb7⟩
      replace HX := Lib.hid (HX.out.step hb7)
      replace HY := Lib.hid (HY.out.step hb7)
      replace HB := Lib.hid (HB.out.trans (hb7.mono HB.out.size))
      clear hb7 HZ
      go_wp2_with (go_at_call 8; with_reducible refine (PermutationText_any HY.out (max_below HMX.out HB.out)).mono ?_)
      rintro _ w8 ⟨rfl, hb8⟩
      replace HX := Lib.hid (HX.out.step hb8)
      replace HB := Lib.hid (HB.out.trans (hb8.mono HB.out.size))
      clear hb8 HY
      rw [HZC.out, HZT.out]
      go_wp2_with (go_at_call 11; with_reducible refine (ReadPermutation_any T _ (max_below HMX.out HB.out)).mono ?_)
      rintro _ w9 ⟨u, rfl, o9, hb9⟩
      replace HX := Lib.hid (HX.out.step hb9)
      replace HB := Lib.hid (HB.out.trans (hb9.mono HB.out.size))
      have HU := Lib.hid o9.reads
      clear o9 hb9
      rw [HXR.out] at HU ⊢
      go_wp2_with (go_at_call 17; with_reducible refine (likeInts_same HU.out HX.out).mono ?_)
      rintro _ wA ⟨rfl, hbA⟩
      replace HB := Lib.hid (HB.out.trans (hbA.mono HB.out.size))
      go_wp2
      go_ret
      exact ⟨rfl, HB.out⟩
    · subst h4
      clear HRD
      go_wp2_with (go_at_call 17; with_reducible refine (likeInts_same HY.out HZ.out).mono ?_)
      rintro _ w7 ⟨rfl, hb7⟩
      replace HX := Lib.hid (HX.out.step hb7)
      replace HY := Lib.hid (HY.out.step hb7)
      replace HB := Lib.hid (HB.out.trans (hb7.mono HB.out.size))
      clear hb7 HZ
      go_wp2_with (go_at_call 11; with_reducible refine (ReadPermutation_any T _ (max_below HMX.out HB.out)).mono ?_)
      rintro _ w9 ⟨u, rfl, o9, hb9⟩
      replace HX := Lib.hid (HX.out.step hb9)
      replace HB := Lib.hid (HB.out.trans (hb9.mono HB.out.size))
      have HU := Lib.hid o9.reads
      clear o9 hb9
      rw [HXR.out] at HU ⊢
      go_wp2_with (go_at_call 17; with_reducible refine (likeInts_same HU.out HX.out).mono ?_)
      rintro _ wA ⟨rfl, hbA⟩
      replace HB := Lib.hid (HB.out.trans (hbA.mono HB.out.size))
      go_wp2
      go_ret
      exact ⟨rfl, HB.out⟩
  · have hC1 : C = 1 := by rw [HPC.out, hp]; rfl
    subst hC1
    clear hp HPC HPT HPX
    rcases HRD.out with ⟨zs, h1, h2, h3, h4⟩ | h4
    · subst h3; subst h4
      have HZC := Lib.hid (show ptC R = 0 by unfold ptC; rw [if_pos h1])
      have HZT := Lib.hid (show ptT R = l by unfold ptT; rw [if_pos h1]; exact h2)
      clear h1 h2 HRD
      go_wp2_with (go_at_call 17; with_reducible refine (likeInts_same HY.out HZ.out).mono ?_)
      rintro _ w7 ⟨rfl, hb7⟩
      replace HX := Lib.hid (HX.out.step hb7)
      replace HY := Lib.hid (HY.out.step hb7)
      replace HB := Lib.hid (HB.out.trans (hb7.mono HB.out.size))
      clear hb7 HZ
      go_wp2_with (go_at_call 8; with_reducible refine (PermutationText_any HY.out (max_below HMX.out HB.out)).mono ?_)
      rintro _ w8 ⟨rfl, hb8⟩
      replace HX := Lib.hid (HX.out.step hb8)
      replace HB := Lib.hid (HB.out.trans (hb8.mono HB.out.size))
      clear hb8 HY
      rw [HZC.out, HZT.out]
      go_wp2
      go_ret
      exact ⟨rfl, HB.out⟩
    · subst h4
      clear HRD
      go_wp2_with (go_at_call 17; with_reducible refine (likeInts_same HY.out HZ.out).mono ?_)
      rintro _ w7 ⟨rfl, hb7⟩
      replace HX := Lib.hid (HX.out.step hb7)
      replace HY := Lib.hid (HY.out.step hb7)
      replace HB := Lib.hid (HB.out.trans (hb7.mono HB.out.size))
      clear hb7 HZ
      go_wp2
      go_ret
      exact ⟨rfl, HB.out⟩

theorem own : ownKnob Tryd.prog.godebug = none := by kernel_rfl
theorem laidOut : laidOutB Tryd.prog = true := by kernel_rfl

set_option maxRecDepth 100000 in
theorem lifted (os : Os) (started : os.Started) (H : Type) (enc : TypeId × Value → H) :
    ReturnsInHanded {} Tryd.checked os 5 .any (fun w args => (Rows.fnPermutationTextsSpec.pre enc Tryd.prog Tryd.f5 Rows.fnPermutationTextsRow.domain false w args ∧ laidMetH Tryd.prog Rows.fnPermutationTextsRow.laid w) ∧ sizedMet enc Tryd.prog Tryd.f5 (OpenSpec.ofChange Rows.fnPermutationTextsSpec) false w args) (Rows.fnPermutationTextsSpec.post enc Tryd.prog Tryd.f5 false true false false) := by
  refine returns_laid_shaped (C := Tryd.checked) (X := fun w _ => laidMetH Tryd.prog Rows.fnPermutationTextsRow.laid w) (fun _ _ _ hh h => h.of_heap hh) own started (by kernel_rfl) Tryd.func5
    (ChangeSpec.witness_at (enc := enc) (C := Tryd.checked) (os := os) (X := fun w _ => laidMetH Tryd.prog Rows.fnPermutationTextsRow.laid w) false (laidWorld os) #[.slice none 0 0] 8 rfl (by kernel_rfl) (by kernel_rfl) (by kernel_rfl) (by kernel_rfl) (by kernel_rfl) (laidWorld_met os _)) ?_
  intro W base args ds gs before hval0 hW hcnd _ hL hsh _
  have hmax := maxLen_cell hsh
  have hval : ∀ (j : Nat) t v, Tryd.f5.params[j]? = some t → args[j]? = some v → Value.okWide Tryd.prog W .any base t v := hval0
  have hW' := hW
  obtain ⟨p, q, hA0, hV, rfl, hfz, hnd⟩ := hW
  have hA : DataW.TrodAll enc Tryd.prog W 0 (fun _ => true) true Tryd.f5.params.toList args.toList ds p := hA0
  rw [Tryd.params5] at hA hval
  obtain ⟨v0, vs0, d0, ds0, p0, q0, hargs, rfl, rfl, h0, r0⟩ := trodAll_cons hA
  obtain ⟨rfl, rfl, rfl⟩ := trodAll_nil r0
  obtain rfl : args = #[v0] := by cases args; simp_all
  obtain ⟨rfl, rfl⟩ := trodVars_none hV
  have k0 := h0
  have lt0 : ∀ x ∈ p0, x.block < W.heap.size := by obtain ⟨m, hm⟩ := k0; exact DataW.trod_lt m _ _ _ hm
  obtain ⟨a0, len0, cap0, rfl⟩ := okWide_slice Tryd.underlying32 (hval 0 32 v0 rfl rfl)
  obtain ⟨z0, w0⟩ : ∃ zs, IsRow .u8 W a0 len0 cap0 zs := by
    obtain ⟨fuel, hf⟩ := h0
    rcases open_ints Tryd.underlying32 Tryd.underlying5 (by kernel_rfl) hf with ⟨hcs, _⟩ | ⟨x, l, c, zs, hcs, _, hl, hm, hz, _, hcell, hwz⟩
    · simp [Value.cells] at hcs
      obtain ⟨rfl, rfl, rfl⟩ := hcs
      exact ⟨[], .inl ⟨rfl, rfl, rfl, rfl⟩⟩
    · simp [Value.cells] at hcs
      obtain ⟨rfl, rfl, rfl⟩ := hcs
      exact ⟨zs, .inr ⟨_, rfl, hl, hm, by simpa using hz, hcell, hwz⟩⟩
  clear hA0 hval0
  refine (walk a0 len0 cap0 z0 W w0 hmax).mono fun e W' ⟨he, bel⟩ => ?_
  subst he
  exact ⟨_, rfl, _, _, _, [], _, [], hW', trodAll_mk1 (shut_bool Tryd.underlying4 _), (trodAll_cons_mk (Below.trod laidOut (by kernel_rfl) (of_decide_eq_true (by kernel_rfl)) k0 bel lt0) trodAll_mk0), rfl, bel.frame _, fun h => by cases h⟩

theorem over : Rows.fnPermutationTextsRow.holds Tryd.pinned (OpenSpec.ofChange Rows.fnPermutationTextsSpec) :=
  OpenClaim.holds_of_wide 5 Tryd.f5 rfl rfl rfl rfl rfl rfl rfl ⟨rfl, rfl, rfl, rfl, rfl⟩ rfl rfl rfl rfl rfl (by kernel_rfl) Tryd.func5 (by kernel_rfl)
    (of_decide_eq_true (by kernel_rfl)) (by unfold Func.isWrapper; first | (rw [if_pos (by decide +kernel)]; kernel_rfl) | (rw [if_neg (by decide +kernel)]; exact ⟨rfl, rfl⟩))
    (fun os started H enc _ => lifted os started H enc)

set_option maxRecDepth 100000 in
theorem proved : Rows.FnPermutationTextsCardSaid :=
  Claim7.holds_tied_plain_at .later [] [.data, .data, .data, .data, .pinned] true (true, Rows.fnPermutationTextsCard.stood.harness.2) false
    over (fun _ h => by cases h) (by kernel_rfl) (fun _ h => by cases h) fnPermutationTexts_row_tie rfl ⟨rfl, rfl⟩ (by kernel_rfl) rfl
    (fun f fn hf hfn => by
      obtain rfl : f = 5 := Option.some.inj ((show Tryd.prog.funcNamed "loop.example/g01000/laws.FnPermutationTexts" = some 5 by kernel_rfl).symm.trans hf) |>.symm
      obtain rfl : fn = Tryd.f5 := (Option.some.inj (Tryd.func5.symm.trans hfn)).symm
      exact ⟨by kernel_rfl, fun j t ht => by
        rw [Tryd.params5] at ht
        have h3 : t = 32 := by
          rcases j with _ | j
          · simpa using ht.symm
          · simp at ht
        subst h3
        exact (show Tryd.prog.wantsStandIn 32 = false by kernel_rfl)⟩)
    (by kernel_rfl)
#print axioms proved
end Go.Proofs.YtcecmjnbhppocaaDoor.textsLaw
