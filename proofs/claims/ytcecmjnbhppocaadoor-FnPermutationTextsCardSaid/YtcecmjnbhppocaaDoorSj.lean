/- Contract: the program's ReadPermutation. -/
import Derived.Test.YtcecmjnbhppocaaDoorSi
namespace Go.Proofs.YtcecmjnbhppocaaDoor
open Go.RowKit
set_option linter.unusedVariables false
set_option linter.unusedSimpArgs false
set_option maxRecDepth 100000

set_option maxHeartbeats 4000000 in
theorem ReadPermutation_any (l : List UInt8) (w : World) (hmx : ∃ mx, w.cell? ⟨0, 0, none⟩ = some (.int .i64 mx)) :
    Calls Tryd.prog 11 #[.string (bs l)] w fun e w' => ∃ v, e = .returned (.tuple #[v, .int .i64 (rdO l).2]) ∧ Own w' w.heap.size v (rdO l).1 ∧ Below w.heap.size w w' := by
  have HM := Lib.hid hmx
  clear hmx
  go_enter Tryd.func11, Tryd.ntmps11
  go_wp2
  go_loopw [4] (fun c wr => ∃ n : Nat, c = .int .i64 (n : Int) ∧ 1 ≤ n ∧ n ≤ 7 ∧ Hid (∀ (m : Nat) (r : Int), 1 ≤ m → m < n → 0 ≤ r → r < factZ m → txtL (withL m r) ≠ l) ∧ Below w.heap.size w wr) (fun c _ => 7 - (intOf c).toNat)
  case atStart => exact ⟨1, rfl, by omega, by omega, Lib.hid (fun m r h1 h2 => by omega), Below.refl _ _⟩
  case round =>
    obtain ⟨n, rfl, h1, h7, HA, hbel⟩ := hrel
    have HW := Lib.hid hbel
    have hsw := hbel.size
    clear hbel
    by_cases hlt : n ≤ 6
    · obtain ⟨f0, f1⟩ := factZ_bd (show (n : Int) ≤ 6 by omega)
      have HFT := Lib.hid (fun w => factorial_int (n : Int) w (by omega) (by omega))
      obtain ⟨F, hF⟩ : ∃ F, factZ (n : Int) = F := ⟨_, rfl⟩
      rw [hF] at HFT f0 f1
      have HF := Lib.hid hF
      clear hF
      go_wp2_with (first | (go_at_call 27; ((with_reducible refine (HFT.out _).mono ?_); rintro e w' ⟨rfl, rfl⟩)))
      go_loopw [13] (fun c wr2 => ∃ k : Nat, c = .int .i64 (k : Int) ∧ (k : Int) ≤ F ∧ Hid (∀ r : Int, 0 ≤ r → r < k → txtL (withL n r) ≠ l) ∧ Below w.heap.size w wr2) (fun c _ => F.toNat - (intOf c).toNat)
      case atStart => exact ⟨0, rfl, by omega, Lib.hid (fun r h0 h1 => by omega), HW.out⟩
      case round =>
        clear HW hsw
        obtain ⟨k, rfl, hk, HB, hbel⟩ := hrel
        have HW := Lib.hid hbel
        have hsw := hbel.size
        clear hbel
        by_cases hkl : (k : Int) < F
        · have HPM := Lib.hid (with_perm ⟨h1, hlt⟩ (show (0 : Int) ≤ k by omega) (by rw [HF.out]; exact hkl))
          have hkf : (k : Int) < factZ n := by rw [HF.out]; exact hkl
          go_wp2_with (go_at_call 28; with_reducible refine (withRank_any n (k : Int) _ hlt (by omega) hkf).mono ?_)
          rintro _ w1 ⟨v1, rfl, o1, hb1⟩
          have HR1 := Lib.hid o1.reads
          have HO1 := Lib.hid (o1.mono hsw)
          have HW1 := Lib.hid (HW.out.trans (hb1.mono hsw))
          have HM1 := Lib.hid (max_below HM.out HW1.out)
          clear o1 hb1 hkf
          by_cases hc : txtL (withL n k) = l
          · have hcmp : ((bs (txtL (withL n (k : Int)))).toList == (bs l).toList) = true := by rw [bs_list, bs_list, hc]; simp
            have HRD := Lib.hid (rdO_some HPM.out hc)
            clear hc
            go_wp2_with (go_at_call 21; with_reducible refine (permutationText_any HR1.out HPM.out HM1.out).mono ?_)
            rintro _ w2 ⟨rfl, hb2⟩
            have HO2 := Lib.hid (HO1.out.step hb2)
            have HW2 := Lib.hid (HW1.out.trans (hb2.mono HW1.out.size))
            clear hb2
            go_wp2
            go_ret2
            exact ⟨v1, by rw [HRD.out]; rfl, by rw [HRD.out]; exact HO2.out, HW2.out⟩
          · have hcmp : ((bs (txtL (withL n (k : Int)))).toList == (bs l).toList) = false := by rw [bs_list, bs_list]; simpa using hc
            have HB2 := Lib.hid (show ∀ r : Int, 0 ≤ r → r < ((k + 1 : Nat) : Int) → txtL (withL n r) ≠ l by
              intro r hr0 hr1
              by_cases e : r = k
              · subst e; exact hc
              · exact HB.out r hr0 (by omega))
            clear hc
            go_wp2_with (go_at_call 21; with_reducible refine (permutationText_any HR1.out HPM.out HM1.out).mono ?_)
            rintro _ w2 ⟨rfl, hb2⟩
            have HW2 := Lib.hid (HW1.out.trans (hb2.mono HW1.out.size))
            clear hb2
            go_wp2
            go_roundw
            case rel => exact ⟨k + 1, by go_num, by omega, HB2, HW2.out⟩
            case measure => simp [intOf]; omega
        · have hkF : (k : Int) = F := by omega
          have HA2 := Lib.hid (show ∀ (m : Nat) (r : Int), 1 ≤ m → m < n + 1 → 0 ≤ r → r < factZ m → txtL (withL m r) ≠ l by
            intro m r hm1 hm2 hr0 hr1
            by_cases e : m = n
            · subst e; exact HB.out r hr0 (by rw [hkF, ← HF.out]; exact hr1)
            · exact HA.out m r hm1 (by omega) hr0 hr1)
          go_wp2
          go_roundw
          case rel => exact ⟨n + 1, by go_num, by omega, by omega, HA2, HW.out⟩
          case measure => simp [intOf]; omega
    · obtain rfl : n = 7 := by omega
      have HRD := Lib.hid (rdO_none (l := l) (fun zs hp => by
        obtain ⟨q1, q2, _⟩ := permB_bd hp
        obtain ⟨r1, r2, r3⟩ := rank_with hp
        rw [← r1]
        exact HA.out zs.length (rankL zs) q1 (by omega) r2 r3))
      go_wp2
      go_ret2
      exact ⟨.slice none 0 0, by rw [HRD.out]; rfl, by rw [HRD.out]; exact Own.nil, HW.out⟩

end Go.Proofs.YtcecmjnbhppocaaDoor
