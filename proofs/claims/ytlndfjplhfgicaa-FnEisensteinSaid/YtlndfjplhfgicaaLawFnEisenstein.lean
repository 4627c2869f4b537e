/- 'laws.FnEisenstein' returns true for all arguments: the exponent of the different of a tame extension is its degree minus 1, and that of a wild one is greater. Conditions: none. -/
import Derived.Test.YtlndfjplhfgicaaRows
import Derived.WalkKit
import Derived.ProofKit
import Derived.OpenShut
import Derived.ShutString
import Derived.ChangeOld
import Derived.Below
import Derived.Lib.SmallJoins
import Derived.Test.YtlndfjplhfgicaaEg
import Derived.Test.YtlndfjplhfgicaaEe
import Derived.Test.YtlndfjplhfgicaaNi
namespace Go.Proofs.Ytlndfjplhfgicaa.eisensteinLaw
open Go.ChangeShapes Go.WideShapes Go.ChangeAt Go.RowKit
open Go.ChangeMaps (open_string shut_string)
set_option linter.unusedVariables false
set_option linter.unusedSimpArgs false


set_option maxRecDepth 100000 in
set_option maxHeartbeats 16000000 in
theorem walk (a0 : Option Addr) (len0 cap0 : Nat) (z0 : List Int) (w : World) (ha0 : IsRow .u8 w a0 len0 cap0 z0) :
    Calls Try.prog 12 #[.slice a0 len0 cap0] w fun e w' => e = .returned (.bool true) ∧ Below w.heap.size w w' := by
  by_cases hbig : len0 ≤ 4096
  case neg =>
    go_enter Try.func12, Try.ntmps12
    go_wp2_with (go_at_call 18; with_reducible refine (big_yes (by omega) ha0.max).mono ?_)
    rintro _ _ ⟨rfl, rfl⟩
    go_wp2
    go_ret
    exact ⟨rfl, Below.refl _ _⟩
  obtain ⟨Z, hZ, hBs⟩ := ha0.bytes (by omega)
  subst hZ
  have HBs := Lib.hid hBs
  clear hBs ha0
  have HB := Lib.hid (Below.refl w.heap.size w)
  go_enter Try.func12, Try.ntmps12
  go_wp2_with (go_at_call 18; with_reducible refine (big_no hbig).mono ?_)
  rintro _ _ ⟨rfl, rfl⟩

  have HBz := Lib.hid (HBs.out.next HB.out HB.out.size)
  go_wp2_with (go_at_call 64; with_reducible refine (DrawDifferentOf_any HBz.out).mono ?_)
  rintro _ wz1 ⟨p, f, vf, rfl, hp, oF, hbN⟩
  replace HB := Lib.hid (HB.out.trans (hbN.mono HB.out.size))
  have HF := Lib.hid oF.reads
  clear HBz hbN oF
  obtain ⟨fa, fc, rfl, _, _⟩ := reads_nil_eq HF.out
  obtain ⟨tb, htb⟩ : ∃ tb, isTame.val p f = tb := ⟨_, rfl⟩
  obtain ⟨eb, heb⟩ : ∃ eb, isEisenstein.val p f = eb := ⟨_, rfl⟩
  have HT := Lib.hid htb
  have HE := Lib.hid heb
  clear htb heb
  go_wp2_with (go_at_call 65; with_reducible refine (differentOf.impl_any HF.out).mono ?_)
  rintro _ _ ⟨rfl, rfl⟩
  go_wp2_with (go_at_call 66; with_reducible refine (differentOf.spec_any HF.out).mono ?_)
  rintro _ _ ⟨rfl, rfl⟩
  have K1 := Lib.hid (isTame.impl_any (p := p) HF.out)
  have K2 := Lib.hid (isTame.spec_any (p := p) HF.out)
  rw [HT.out] at K1 K2
  go_wp2_with (go_at_call 67; with_reducible refine (K1.out).mono ?_)
  rintro _ _ ⟨rfl, rfl⟩
  go_wp2_with (go_at_call 68; with_reducible refine (K2.out).mono ?_)
  rintro _ _ ⟨rfl, rfl⟩
  have K3 := Lib.hid (isEisenstein.impl_any (p := p) HF.out)
  have K4 := Lib.hid (isEisenstein.spec_any (p := p) HF.out)
  rw [HE.out] at K3 K4
  go_wp2_with (go_at_call 69; with_reducible refine (K3.out).mono ?_)
  rintro _ _ ⟨rfl, rfl⟩
  go_wp2_with (go_at_call 70; with_reducible refine (K4.out).mono ?_)
  rintro _ _ ⟨rfl, rfl⟩
  have HBz := Lib.hid (HBs.out.next HB.out HB.out.size)
  go_wp2_with (go_at_call 71; with_reducible refine (DrawEisensteinPolynomial_any HBz.out).mono ?_)
  rintro _ wz2 ⟨q, n, k, rfl, hq, hn, hk, hbN⟩
  replace HF := Lib.hid (HF.out.step hbN)
  replace HB := Lib.hid (HB.out.trans (hbN.mono HB.out.size))
  clear HBz hbN 
  go_wp2_with (go_at_call 72; with_reducible refine (EisensteinPolynomial_any q n k _).mono ?_)
  rintro _ wz3 ⟨v3, rfl, oN, hbN⟩
  obtain ⟨sa3, sc3, rfl, _, _⟩ := reads_nil_eq oN.reads
  replace HF := Lib.hid (HF.out.step hbN)
  replace HB := Lib.hid (HB.out.trans (hbN.mono HB.out.size))
  have HG := Lib.hid oN.reads
  clear oN hbN
  go_wp2_with (go_at_call 73; with_reducible refine (sEisensteinPolynomial_any q n k _).mono ?_)
  rintro _ wz4 ⟨v4, rfl, oN, hbN⟩
  obtain ⟨sa4, sc4, rfl, _, _⟩ := reads_nil_eq oN.reads
  replace HF := Lib.hid (HF.out.step hbN)
  replace HG := Lib.hid (HG.out.step hbN)
  replace HB := Lib.hid (HB.out.trans (hbN.mono HB.out.size))
  have HH := Lib.hid oN.reads
  clear oN hbN
  obtain ⟨C1, hC1⟩ : ∃ C, ownC p f = C := ⟨_, rfl⟩
  obtain ⟨C2, hC2⟩ : ∃ C, extC p f = C := ⟨_, rfl⟩
  obtain ⟨C3, hC3⟩ : ∃ C, eisC q n k = C := ⟨_, rfl⟩
  obtain ⟨D, hD⟩ : ∃ D, difV p f = D := ⟨_, rfl⟩
  rw [hC1, hC2, hC3, hD]
  have f1 : (C1 != C1) = false := by simp
  have f2 : (C2 != C2) = false := by simp
  have f3 : (C3 != C3) = false := by simp
  have f4 : (D != D) = false := by simp
  have f5 : (tb != tb) = false := by simp
  have f6 : (eb != eb) = false := by simp
  have H1 := Lib.hid hC1
  have H2 := Lib.hid hC2
  have H3 := Lib.hid hC3
  have HD := Lib.hid hD
  clear hC1 hC2 hC3 hD
  go_wp2_with (go_at_call 27; with_reducible refine (likeInts_same HG.out HH.out).mono ?_)
  rintro _ wz5 ⟨rfl, hbN⟩
  replace HF := Lib.hid (HF.out.step hbN)
  replace HG := Lib.hid (HG.out.step hbN)
  replace HH := Lib.hid (HH.out.step hbN)
  replace HB := Lib.hid (HB.out.trans (hbN.mono HB.out.size))
  clear hbN
  clear HH
  by_cases h3 : C3 = 0
  · have G := Lib.hid (eis_ok (H3.out.trans h3))
    subst h3
    have K5 := Lib.hid (isEisenstein.impl_any (p := q) HG.out)
    rw [show isEisenstein.val q (eisL q n k) = true by unfold isEisenstein.val; rw [if_pos G.out.1, G.out.2], G.out.1] at K5
    go_wp2_with (go_at_call 69; with_reducible refine (K5.out).mono ?_)
    rintro _ _ ⟨rfl, rfl⟩
    have hw := own_ways p f
    rw [H1.out, H2.out] at hw
    rcases hw with ⟨hc2, ⟨he, hc1⟩ | ⟨he, hc1⟩⟩ | ⟨hc2, _, hc1⟩
    · have hev : eb = true := by rw [← HE.out]; unfold isEisenstein.val; rw [if_pos (H2.out.trans hc2), he]
      have hl := dif_law (H1.out.trans hc1)
      have hdv : difL p f = D := by rw [← HD.out]; unfold difV; rw [if_pos (H1.out.trans hc1)]
      have htv : tb = decide (((f.length : Int) - 1) % p ≠ 0) := by rw [← HT.out]; unfold isTame.val; rw [if_pos (H1.out.trans hc1)]
      have hfl : f.length ≤ 1099511627776 := HF.out.1
      have hf2 : 2 ≤ f.length := (mon_ok (ext_ok (H2.out.trans hc2)).2.2).1
      rw [hdv] at hl
      subst hev
      obtain ⟨fl, hfle⟩ : ∃ fl, f.length = fl := ⟨_, rfl⟩
      rw [hfle] at hl htv hfl hf2 HF ⊢
      clear hfle hdv he
      subst hc1
      subst hc2
      by_cases hz : ((fl : Int) - 1) % p = 0
      · have hd : (fl : Int) - 2 < D := hl.2 hz
        have htf : tb = false := by rw [htv]; simpa using hz
        have hdb : (D == (fl : Int) - 2) = false := by simp; omega
        have hdc : decide ((fl : Int) - 2 < D) = true := by simpa using hd
        subst htf
        clear htv hl hz
        go_wp2
        go_ret
        exact ⟨rfl, HB.out⟩
      · have hd : D = (fl : Int) - 2 := hl.1 hz
        have htf : tb = true := by rw [htv]; simpa using hz
        have hdb : (D == (fl : Int) - 2) = true := by simpa using hd
        subst htf
        clear htv hl hz hd
        go_wp2
        go_ret
        exact ⟨rfl, HB.out⟩
    · have hev : eb = false := by rw [← HE.out]; unfold isEisenstein.val; rw [if_pos (H2.out.trans hc2), he]
      subst hev
      subst hc2
      subst hc1
      go_wp2
      go_ret
      exact ⟨rfl, HB.out⟩
    · have hc1b : (C1 != 0) = true := by rw [hc1]; assumption
      go_wp2
      go_ret
      exact ⟨rfl, HB.out⟩
  · have h3b : (C3 == 0) = false := by simpa using h3
    have hw := own_ways p f
    rw [H1.out, H2.out] at hw
    rcases hw with ⟨hc2, ⟨he, hc1⟩ | ⟨he, hc1⟩⟩ | ⟨hc2, _, hc1⟩
    · have hev : eb = true := by rw [← HE.out]; unfold isEisenstein.val; rw [if_pos (H2.out.trans hc2), he]
      have hl := dif_law (H1.out.trans hc1)
      have hdv : difL p f = D := by rw [← HD.out]; unfold difV; rw [if_pos (H1.out.trans hc1)]
      have htv : tb = decide (((f.length : Int) - 1) % p ≠ 0) := by rw [← HT.out]; unfold isTame.val; rw [if_pos (H1.out.trans hc1)]
      have hfl : f.length ≤ 1099511627776 := HF.out.1
      have hf2 : 2 ≤ f.length := (mon_ok (ext_ok (H2.out.trans hc2)).2.2).1
      rw [hdv] at hl
      subst hev
      obtain ⟨fl, hfle⟩ : ∃ fl, f.length = fl := ⟨_, rfl⟩
      rw [hfle] at hl htv hfl hf2 HF ⊢
      clear hfle hdv he
      subst hc1
      subst hc2
      by_cases hz : ((fl : Int) - 1) % p = 0
      · have hd : (fl : Int) - 2 < D := hl.2 hz
        have htf : tb = false := by rw [htv]; simpa using hz
        have hdb : (D == (fl : Int) - 2) = false := by simp; omega
        have hdc : decide ((fl : Int) - 2 < D) = true := by simpa using hd
        subst htf
        clear htv hl hz
        go_wp2
        go_ret
        exact ⟨rfl, HB.out⟩
      · have hd : D = (fl : Int) - 2 := hl.1 hz
        have htf : tb = true := by rw [htv]; simpa using hz
        have hdb : (D == (fl : Int) - 2) = true := by simpa using hd
        subst htf
        clear htv hl hz hd
        go_wp2
        go_ret
        exact ⟨rfl, HB.out⟩
    · have hev : eb = false := by rw [← HE.out]; unfold isEisenstein.val; rw [if_pos (H2.out.trans hc2), he]
      subst hev
      subst hc2
      subst hc1
      go_wp2
      go_ret
      exact ⟨rfl, HB.out⟩
    · have hc1b : (C1 != 0) = true := by rw [hc1]; assumption
      go_wp2
      go_ret
      exact ⟨rfl, HB.out⟩

theorem own : ownKnob Try.prog.godebug = none := by kernel_rfl
theorem laidOut : laidOutB Try.prog = true := by kernel_rfl

set_option maxRecDepth 100000 in
theorem lifted (os : Os) (started : os.Started) (H : Type) (enc : TypeId × Value → H) :
    ReturnsInHanded {} Try.checked os 12 .any (Rows.fnEisensteinSpec.pre6 enc Try.prog Try.f12 Rows.fnEisensteinRow.domain false) (Rows.fnEisensteinSpec.post enc Try.prog Try.f12 false true false false) := by
  refine returnsInHanded_of_change (C := Try.checked) own started (by kernel_rfl) Try.func12
    (ChangeSpec.witness6 (enc := enc) (C := Try.checked) false ⟨#[], #[.slice none 0 0], []⟩ 8 (by kernel_rfl) (by kernel_rfl) (by kernel_rfl) (by kernel_rfl)) ?_
  intro W base args ds gs before hval0 hW hcnd _
  have hval : ∀ (j : Nat) t v, Try.f12.params[j]? = some t → args[j]? = some v → Value.okWide Try.prog W .any base t v := hval0
  have hW' := hW
  obtain ⟨p, q, hA0, hV, rfl, hfz, hnd⟩ := hW
  have hA : DataW.TrodAll enc Try.prog W 0 (fun _ => true) true Try.f12.params.toList args.toList ds p := hA0
  rw [Try.params12] at hA hval
  obtain ⟨v0, vs0, d0, ds0, p0, q0, hargs, rfl, rfl, h0, r0⟩ := trodAll_cons hA
  obtain ⟨rfl, rfl, rfl⟩ := trodAll_nil r0
  obtain rfl : args = #[v0] := by cases args; simp_all
  obtain ⟨rfl, rfl⟩ := trodVars_none hV
  have k0 := h0
  have lt0 : ∀ x ∈ p0, x.block < W.heap.size := by obtain ⟨m, hm⟩ := k0; exact DataW.trod_lt m _ _ _ hm
  obtain ⟨a0, len0, cap0, rfl⟩ := okWide_slice Try.underlying28 (hval 0 28 v0 rfl rfl)
  obtain ⟨z0, w0⟩ : ∃ zs, IsRow .u8 W a0 len0 cap0 zs := by
    obtain ⟨fuel, hf⟩ := h0
    rcases open_ints Try.underlying28 Try.underlying5 (by kernel_rfl) hf with ⟨hcs, _⟩ | ⟨x, l, c, zs, hcs, _, hl, hm, hz, _, hcell, hwz⟩
    · simp [Value.cells] at hcs
      obtain ⟨rfl, rfl, rfl⟩ := hcs
      exact ⟨[], .inl ⟨rfl, rfl, rfl, rfl⟩⟩
    · simp [Value.cells] at hcs
      obtain ⟨rfl, rfl, rfl⟩ := hcs
      exact ⟨zs, .inr ⟨_, rfl, hl, hm, by simpa using hz, hcell, hwz⟩⟩
  clear hA0 hval0
  refine (walk a0 len0 cap0 z0 W w0).mono fun e W' ⟨he, bel⟩ => ?_
  subst he
  exact ⟨_, rfl, _, _, _, [], _, [], hW', trodAll_mk1 (shut_bool Try.underlying4 _), (trodAll_cons_mk (Below.trod laidOut (by kernel_rfl) (of_decide_eq_true (by kernel_rfl)) k0 bel lt0) trodAll_mk0), rfl, bel.frame _, fun h => by cases h⟩

theorem over : Rows.fnEisensteinRow.holds Try.pinned (OpenSpec.ofChange Rows.fnEisensteinSpec) :=
  OpenClaim.holds_of_wide 12 Try.f12 rfl rfl rfl rfl rfl rfl rfl ⟨rfl, rfl, rfl, rfl, rfl⟩ rfl rfl rfl rfl rfl (by kernel_rfl) Try.func12 (by kernel_rfl)
    (of_decide_eq_true (by kernel_rfl)) (by unfold Func.isWrapper; first | (rw [if_pos (by decide +kernel)]; kernel_rfl) | (rw [if_neg (by decide +kernel)]; exact ⟨rfl, rfl⟩))
    (fun os started H enc _ => lifted os started H enc)

theorem proved : Rows.FnEisensteinSaid := over
#print axioms proved
end Go.Proofs.Ytlndfjplhfgicaa.eisensteinLaw
