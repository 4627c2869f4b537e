/- 'laws.FnSymbols' returns true for all arguments: the product of all Hilbert symbols is 1, and exchanging both numbers changes none. Conditions: none. -/
import Derived.Test.YtjampkjgapkklaaRows
import Derived.WalkKit
import Derived.ProofKit
import Derived.OpenShut
import Derived.ShutString
import Derived.ChangeOld
import Derived.Below
import Derived.Lib.SmallJoins
import Derived.Test.YtjampkjgapkklaaZf
import Derived.Test.YtjampkjgapkklaaNi
namespace Go.Proofs.Ytjampkjgapkklaa.symbols
open Go.ChangeShapes Go.WideShapes Go.ChangeAt Go.RowKit
open Go.ChangeMaps (open_string shut_string)
set_option linter.unusedVariables false
set_option linter.unusedSimpArgs false

open hilbertSymbol (val code plB) in
theorem code_ok {p a b : Int} (h : code p a b = 0) : plB p = true ∧ nzB a = true ∧ nzB b = true := by
  unfold code at h
  by_cases hp : plB p = true
  · rw [if_pos hp] at h
    by_cases ha : nzB a = true
    · rw [if_pos ha] at h
      by_cases hb : nzB b = true
      · exact ⟨hp, ha, hb⟩
      · rw [if_neg hb] at h; cases h
    · rw [if_neg ha] at h; cases h
  · rw [if_neg hp] at h; cases h
open hilbertSymbol (val code plB) in
theorem code_comm {p a b : Int} (h : code p a b = 0) : code p b a = 0 := by
  obtain ⟨hp, ha, hb⟩ := code_ok h
  unfold code
  rw [if_pos hp, if_pos hb, if_pos ha]
open hilbertSymbol (val code plB) in
theorem val_comm {p a b : Int} (h : code p a b = 0) : val p b a = val p a b := by
  obtain ⟨hp, ha, hb⟩ := code_ok h
  unfold val
  rw [if_pos hp, if_pos hb, if_pos ha, if_pos hp, if_pos ha, if_pos hb, hilV_comm]
open hilbertSymbol (val code plB) in
theorem val_unit {p a b : Int} (h : code p a b = 0) : val p a b = 1 ∨ val p a b = -1 := by
  obtain ⟨hp, ha, hb⟩ := code_ok h
  unfold val
  rw [if_pos hp, if_pos ha, if_pos hb]
  refine hilV_unit ?_ (nz_iff.1 ha).2 (nz_iff.1 hb).2
  unfold plB at hp
  rw [Bool.or_eq_true] at hp
  rcases hp with h | h
  · exact .inl (by simpa using h)
  · exact .inr h
theorem con_has {a b : Int} (h : badC a b = 0) : decide ((-1 : Int) ∈ tabL a b) = !conB a b := by
  unfold conB hasL
  rw [h]
  simp [List.contains_eq_mem]

set_option maxRecDepth 100000 in
set_option maxHeartbeats 16000000 in
theorem walk (a0 : Option Addr) (len0 cap0 : Nat) (z0 : List Int) (w : World) (ha0 : IsRow .u8 w a0 len0 cap0 z0) :
    Calls Try.prog 12 #[.slice a0 len0 cap0] w fun e w' => e = .returned (.bool true) ∧ Below w.heap.size w w' := by
  by_cases hbig : len0 ≤ 4096
  case neg =>
    go_enter Try.func12, Try.ntmps12
    go_wp2_with (go_at_call 36; with_reducible refine (big_yes (by omega) ha0.max).mono ?_)
    rintro _ _ ⟨rfl, rfl⟩
    go_wp2
    go_ret
    exact ⟨rfl, Below.refl _ _⟩
  obtain ⟨Z, hZ, hBs⟩ := ha0.bytes (by omega)
  subst hZ
  have HBs := Lib.hid hBs
  clear hBs ha0
  go_enter Try.func12, Try.ntmps12
  go_wp2_with (go_at_call 36; with_reducible refine (big_no hbig).mono ?_)
  rintro _ _ ⟨rfl, rfl⟩
  go_wp2_with (go_at_call 37; with_reducible refine (DrawSymbolTable_any HBs.out).mono ?_)
  rintro _ w1 ⟨x, y, rfl, hx, hy, hb1⟩
  have HB1 := Lib.hid hb1
  clear hb1
  go_wp2_with (go_at_call 33; with_reducible refine (symbolTable.impl_any).mono ?_)
  rintro _ w2 ⟨t, rfl, o2, hb2⟩
  obtain ⟨ta, tc, rfl, ht1, ht2, _⟩ := o2.shape
  go_wp2_with (go_at_call 32; with_reducible refine (symbolTable.spec_any).mono ?_)
  rintro _ w3 ⟨mm, rfl, o3, hb3⟩
  have HB3 := Lib.hid ((HB1.out.trans (hb2.mono HB1.out.size)).trans (hb3.mono (HB1.out.trans (hb2.mono HB1.out.size)).size))
  have HT := Lib.hid (o2.reads.step hb3)
  have HM := Lib.hid o3.reads
  clear o2 o3 hb2 hb3
  go_wp2_with (go_at_call 28; with_reducible refine (badPrimes.impl_any).mono ?_)
  rintro _ w4 ⟨l, rfl, o4, hb4⟩
  obtain ⟨la, lc, rfl, hl1, hl2, _⟩ := o4.shape
  go_wp2_with (go_at_call 27; with_reducible refine (badPrimes.spec_any).mono ?_)
  rintro _ w5 ⟨q, rfl, o5, hb5⟩
  have HB5 := Lib.hid ((HB3.out.trans (hb4.mono HB3.out.size)).trans (hb5.mono (HB3.out.trans (hb4.mono HB3.out.size)).size))
  have HL := Lib.hid (o4.reads.step hb5)
  have HQ := Lib.hid o5.reads
  have HT5 := Lib.hid ((HT.out.step hb4).step hb5)
  have HM5 := Lib.hid ((HM.out.step hb4).step hb5)
  clear o4 o5 hb4 hb5 HT HM
  obtain ⟨cb, hcb⟩ : ∃ cb, conB x y = cb := ⟨_, rfl⟩
  have HCB := Lib.hid hcb
  have K1 := Lib.hid (fun w => sHasConic_any x y w)
  have K2 := Lib.hid (fun w => HasConic_any x y w)
  rw [hcb] at K1 K2
  clear hcb
  go_wp2_with (go_at_call 35; with_reducible refine (K2.out _).mono ?_)
  rintro _ w6 ⟨rfl, hb6⟩
  go_wp2_with (go_at_call 34; with_reducible refine (K1.out _).mono ?_)
  rintro _ w7 ⟨rfl, hb7⟩
  have HB7 := Lib.hid ((HB5.out.trans (hb6.mono HB5.out.size)).trans (hb7.mono (HB5.out.trans (hb6.mono HB5.out.size)).size))
  have HT7 := Lib.hid ((HT5.out.step hb6).step hb7)
  have HM7 := Lib.hid ((HM5.out.step hb6).step hb7)
  have HL7 := Lib.hid ((HL.out.step hb6).step hb7)
  have HQ7 := Lib.hid ((HQ.out.step hb6).step hb7)
  clear hb6 hb7 HL HQ HT5 HM5
  have HBs7 := Lib.hid (HBs.out.next HB7.out HB7.out.size)
  go_wp2_with (go_at_call 38; with_reducible refine (DrawHilbertSymbol_any HBs7.out).mono ?_)
  rintro _ w8 ⟨p, u, v, rfl, hp, hu, hv, hb8⟩
  go_wp2_with (go_at_call 24; with_reducible refine (hilbertSymbol.impl_any p u v _).mono ?_)
  rintro _ w9 ⟨rfl, hb9⟩
  go_wp2_with (go_at_call 23; with_reducible refine (hilbertSymbol.spec_any p u v _).mono ?_)
  rintro _ wA ⟨rfl, hbA⟩
  have HB8 := Lib.hid (HB7.out.trans (hb8.mono HB7.out.size))
  have HB9 := Lib.hid (HB8.out.trans (hb9.mono HB8.out.size))
  have HBA := Lib.hid (HB9.out.trans (hbA.mono HB9.out.size))
  have HTA := Lib.hid (((HT7.out.step hb8).step hb9).step hbA)
  have HMA := Lib.hid (((HM7.out.step hb8).step hb9).step hbA)
  have HLA := Lib.hid (((HL7.out.step hb8).step hb9).step hbA)
  have HQA := Lib.hid (((HQ7.out.step hb8).step hb9).step hbA)
  clear hb8 hb9 hbA HT7 HM7 HL7 HQ7
  obtain ⟨S, hS⟩ : ∃ S, hilbertSymbol.val p u v = S := ⟨_, rfl⟩
  obtain ⟨D, hD⟩ : ∃ D, hilbertSymbol.code p u v = D := ⟨_, rfl⟩
  obtain ⟨C, hC⟩ : ∃ C, badC x y = C := ⟨_, rfl⟩
  rw [hS, hD, hC]
  have f1 : (C != C) = false := by simp
  have f2 : (cb != cb) = false := by simp
  have f3 : (D != D) = false := by simp
  have f4 : (S != S) = false := by simp
  go_wp2_with (go_at_call 39; with_reducible refine (likeInts_same HTA.out HMA.out).mono ?_)
  rintro _ wB ⟨rfl, hbB⟩
  go_wp2_with (go_at_call 39; with_reducible refine (likeInts_same (HLA.out.step hbB) (HQA.out.step hbB)).mono ?_)
  rintro _ wC ⟨rfl, hbC⟩
  have HBC := Lib.hid ((HBA.out.trans (hbB.mono HBA.out.size)).trans (hbC.mono (HBA.out.trans (hbB.mono HBA.out.size)).size))
  have HTC := Lib.hid ((HTA.out.step hbB).step hbC)
  have HLB := Lib.hid (HLA.out.step hbB)
  clear hbB hbC HTA HMA HLA HQA
  have HTL := Lib.hid (fun h => tabL_len (a := x) (b := y) h)
  have HBD := Lib.hid (tabL_bd (a := x) (b := y))
  have HPR := Lib.hid (fun h => tabL_prod (a := x) (b := y) h)
  have HCH := Lib.hid (fun h => con_has (a := x) (b := y) h)
  rw [HCB.out] at HCH
  generalize tabL x y = T at *
  generalize badL x y = BL at *
  rw [hC] at HTL HPR HCH
  obtain ⟨n, hn⟩ : ∃ n, T.length = n := ⟨_, rfl⟩
  have HN := Lib.hid hn
  have hnb : n ≤ 1099511627776 := by have := HTC.out.1; omega
  rw [hn] at HTC ht1 ⊢
  clear hn
  obtain ⟨m, hm⟩ : ∃ m, BL.length = m := ⟨_, rfl⟩
  have HM := Lib.hid hm
  have hmb : m ≤ 1099511627776 := by have := HLB.out.1; omega
  rw [hm] at hl1 ⊢
  clear hm HLB
  by_cases hD0 : D = 0
  · have VU := val_unit (hD.trans hD0)
    have K3 := Lib.hid (fun w => hilbertSymbol.impl_any p v u w)
    rw [val_comm (hD.trans hD0), code_comm (hD.trans hD0), hS] at K3
    rw [hS] at VU
    subst hD0
    rcases VU with rfl | rfl
    all_goals
      go_wp2_with (go_at_call 24; with_reducible refine (K3.out _).mono ?_)
      rintro _ wD ⟨rfl, hbD⟩
      have HBZ := Lib.hid (HBC.out.trans (hbD.mono HBC.out.size))
      have HTZ := Lib.hid (HTC.out.step hbD)
      clear hbD
      by_cases hC0 : C = 0
      · subst hC0
        have HL0 := Lib.hid (HTL.out rfl)
        have HP0 := Lib.hid (HPR.out rfl)
        have K4 := Lib.hid (hasInt_any (-1) HTZ.out)
        rw [HCH.out rfl] at K4
        go_wp2
        go_loop [26, 27] (fun pr i => ∃ (k : Nat) (P : Int), i = .int .i64 (k : Int) ∧ pr = .int .i64 P ∧ k ≤ n ∧ Hid (P = (T.take k).prod) ∧ -1 ≤ P ∧ P ≤ 1) (fun _ i => n - (intOf i).toNat)
        case atStart => exact ⟨0, 1, rfl, rfl, by omega, Lib.hid (by simp), by omega, by omega⟩
        case round =>
          obtain ⟨k, P, rfl, rfl, hk, HP, hP0, hP1⟩ := hrel
          by_cases hlt : k < n
          · obtain ⟨tb, to, rfl, c1⟩ := Reads.cellN HTZ.out (k := k) (by have := HN.out; omega)
            have hk1 : k < T.length := by have := HN.out; omega
            have hb1 := HBD.out _ (el_mem hk1)
            obtain ⟨E, hE⟩ : ∃ E, el T k = E := ⟨_, rfl⟩
            rw [hE] at hb1 c1
            have hm := one_mul_bd ⟨hP0, hP1⟩ hb1
            have HS := Lib.hid (show P * E = (T.take (k + 1)).prod by rw [prod_take_step hk1, HP.out, hE])
            clear hE hk1
            go_wp2
            go_round
            case rel => exact ⟨k + 1, _, by go_num, rfl, by omega, HS, hm.1, hm.2⟩
            case measure => simp [intOf]; omega
          · obtain rfl : k = n := by omega
            have h1 : P = 1 := by rw [HP.out, List.take_of_length_le (by have := HN.out; omega)]; exact HP0.out
            subst h1
            have HL := Lib.hid (show (k : Int) = (m : Int) + 1 by have := HL0.out; have := HN.out; have := HM.out; omega)
            have hl' : ((k : Int) == (m : Int) + 1) = true := by have := HL.out; rw [this]; simp
            cases cb
            all_goals
              go_wp2_with (go_at_call 40; ((with_reducible refine (K4.out).mono ?_); rintro e w' ⟨rfl, rfl⟩))
              go_ret
              exact ⟨rfl, HBZ.out⟩
      · have hC1 : (C != 0) = true := by simpa using hC0
        go_wp2
        go_ret
        exact ⟨rfl, HBZ.out⟩
  · have hD1 : (D == 0) = false := by simpa using hD0
    have HBZ := HBC
    have HTZ := HTC
    by_cases hC0 : C = 0
    · subst hC0
      have HL0 := Lib.hid (HTL.out rfl)
      have HP0 := Lib.hid (HPR.out rfl)
      have K4 := Lib.hid (hasInt_any (-1) HTZ.out)
      rw [HCH.out rfl] at K4
      go_wp2
      go_loop [26, 27] (fun pr i => ∃ (k : Nat) (P : Int), i = .int .i64 (k : Int) ∧ pr = .int .i64 P ∧ k ≤ n ∧ Hid (P = (T.take k).prod) ∧ -1 ≤ P ∧ P ≤ 1) (fun _ i => n - (intOf i).toNat)
      case atStart => exact ⟨0, 1, rfl, rfl, by omega, Lib.hid (by simp), by omega, by omega⟩
      case round =>
        obtain ⟨k, P, rfl, rfl, hk, HP, hP0, hP1⟩ := hrel
        by_cases hlt : k < n
        · obtain ⟨tb, to, rfl, c1⟩ := Reads.cellN HTZ.out (k := k) (by have := HN.out; omega)
          have hk1 : k < T.length := by have := HN.out; omega
          have hb1 := HBD.out _ (el_mem hk1)
          obtain ⟨E, hE⟩ : ∃ E, el T k = E := ⟨_, rfl⟩
          rw [hE] at hb1 c1
          have hm := one_mul_bd ⟨hP0, hP1⟩ hb1
          have HS := Lib.hid (show P * E = (T.take (k + 1)).prod by rw [prod_take_step hk1, HP.out, hE])
          clear hE hk1
          go_wp2
          go_round
          case rel => exact ⟨k + 1, _, by go_num, rfl, by omega, HS, hm.1, hm.2⟩
          case measure => simp [intOf]; omega
        · obtain rfl : k = n := by omega
          have h1 : P = 1 := by rw [HP.out, List.take_of_length_le (by have := HN.out; omega)]; exact HP0.out
          subst h1
          have HL := Lib.hid (show (k : Int) = (m : Int) + 1 by have := HL0.out; have := HN.out; have := HM.out; omega)
          have hl' : ((k : Int) == (m : Int) + 1) = true := by have := HL.out; rw [this]; simp
          cases cb
          all_goals
            go_wp2_with (go_at_call 40; ((with_reducible refine (K4.out).mono ?_); rintro e w' ⟨rfl, rfl⟩))
            go_ret
            exact ⟨rfl, HBZ.out⟩
    · have hC1 : (C != 0) = true := by simpa using hC0
      go_wp2
      go_ret
      exact ⟨rfl, HBZ.out⟩

theorem own : ownKnob Try.prog.godebug = none := by kernel_rfl
theorem laidOut : laidOutB Try.prog = true := by kernel_rfl

set_option maxRecDepth 100000 in
theorem lifted (os : Os) (started : os.Started) (H : Type) (enc : TypeId × Value → H) :
    ReturnsInHanded {} Try.checked os 12 .any (Rows.fnSymbolsSpec.pre6 enc Try.prog Try.f12 Rows.fnSymbolsRow.domain false) (Rows.fnSymbolsSpec.post enc Try.prog Try.f12 false true false false) := by
  refine returnsInHanded_of_change (C := Try.checked) own started (by kernel_rfl) Try.func12
    (ChangeSpec.witness6 (enc := enc) (C := Try.checked) false ⟨#[], #[.slice none 0 0], []⟩ 8 (by kernel_rfl) (by kernel_rfl) (by kernel_rfl) (by kernel_rfl)) ?_
  intro W base args ds gs before hval0 hW hcnd _
  have hval : ∀ (j : Nat) t v, Try.f12.params[j]? = some t → args[j]? = some v → Value.okWide Try.prog W .any base t v := hval0
  have hW' := hW
  obtain ⟨p, q, hA0, hV, rfl, hfz, hnd⟩ := hW
  have hA : DataW.TrodAll enc Try.prog W 0 (fun _ => true) true Try.f12.params.toList args.toList ds p := hA0
  rw [Try.params12] at hA hval
  obtain ⟨v0, vs0, d0, ds0, p0, q0, hargs, rfl, rfl, h0, r0⟩ := trodAll_cons hA
  obtain ⟨rfl, rfl, rfl⟩ := trodAll_nil r0
  obtain rfl : args = #[v0] := by cases args; simp_all
  obtain ⟨rfl, rfl⟩ := trodVars_none hV
  have k0 := h0
  have lt0 : ∀ x ∈ p0, x.block < W.heap.size := by obtain ⟨m, hm⟩ := k0; exact DataW.trod_lt m _ _ _ hm
  obtain ⟨a0, len0, cap0, rfl⟩ := okWide_slice Try.underlying38 (hval 0 38 v0 rfl rfl)
  obtain ⟨z0, w0⟩ : ∃ zs, IsRow .u8 W a0 len0 cap0 zs := by
    obtain ⟨fuel, hf⟩ := h0
    rcases open_ints Try.underlying38 Try.underlying5 (by kernel_rfl) hf with ⟨hcs, _⟩ | ⟨x, l, c, zs, hcs, _, hl, hm, hz, _, hcell, hwz⟩
    · simp [Value.cells] at hcs
      obtain ⟨rfl, rfl, rfl⟩ := hcs
      exact ⟨[], .inl ⟨rfl, rfl, rfl, rfl⟩⟩
    · simp [Value.cells] at hcs
      obtain ⟨rfl, rfl, rfl⟩ := hcs
      exact ⟨zs, .inr ⟨_, rfl, hl, hm, by simpa using hz, hcell, hwz⟩⟩
  clear hA0 hval0
  refine (walk a0 len0 cap0 z0 W w0).mono fun e W' ⟨he, bel⟩ => ?_
  subst he
  exact ⟨_, rfl, _, _, _, [], _, [], hW', trodAll_mk1 (shut_bool Try.underlying4 _), (trodAll_cons_mk (Below.trod laidOut (by kernel_rfl) (of_decide_eq_true (by kernel_rfl)) k0 bel lt0) trodAll_mk0), rfl, bel.frame _, fun h => by cases h⟩

theorem over : Rows.fnSymbolsRow.holds Try.pinned (OpenSpec.ofChange Rows.fnSymbolsSpec) :=
  OpenClaim.holds_of_wide 12 Try.f12 rfl rfl rfl rfl rfl rfl rfl ⟨rfl, rfl, rfl, rfl, rfl⟩ rfl rfl rfl rfl rfl (by kernel_rfl) Try.func12 (by kernel_rfl)
    (of_decide_eq_true (by kernel_rfl)) (by unfold Func.isWrapper; first | (rw [if_pos (by decide +kernel)]; kernel_rfl) | (rw [if_neg (by decide +kernel)]; exact ⟨rfl, rfl⟩))
    (fun os started H enc _ => lifted os started H enc)

theorem proved : Rows.FnSymbolsSaid := over
#print axioms proved
end Go.Proofs.Ytjampkjgapkklaa.symbols
