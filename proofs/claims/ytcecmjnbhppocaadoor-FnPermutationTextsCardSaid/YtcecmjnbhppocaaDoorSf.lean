/- Contracts: the reference's numbers as texts, of up to thirteen digits; strings cut apart. -/
import Derived.Test.YtcecmjnbhppocaaDoorSe
import Derived.Deep.RegionWith
import Derived.Deep.CutRange
namespace Go.Proofs.YtcecmjnbhppocaaDoor
open Go.RowKit
set_option linter.unusedVariables false
set_option linter.unusedSimpArgs false
set_option maxRecDepth 100000

theorem conv_dg {x : Int} (h : 0 ≤ x ∧ x ≤ 9) {w : World} {b : Nat} (hc : w.cell? ⟨b, 0, none⟩ = some (.int .u8 (48 + x))) :
    (convert 32 9 (.slice (some ⟨b, 0, none⟩) 1 1)).run Tryd.prog w = .ok (.string (bs (dg x))) w :=
  run_convert_bytes_back _ _ _ 5 ⟨b, 0, none⟩ 1 (dg x) Tryd.underlying32 Tryd.underlying5 Tryd.underlying9 (fun j hj => by
      obtain rfl : j = 0 := by simp [dg] at hj; omega
      simp only [dg, List.getElem_cons_zero]
      rw [dg_nat h]
      simpa [Addr.add] using hc)
theorem cell_kept {w w1 : World} {v : Value} {t : TypeId} (hb : Below (w.alloc (.cells #[v] t)).drew.heap.size (w.alloc (.cells #[v] t)).drew w1) : w1.cell? ⟨w.heap.size, 0, none⟩ = some v :=
  (hb.cell (p := ⟨w.heap.size, 0, none⟩) (by simp)).trans (by simp)
theorem dec_b1 {w w1 : World} {o : Obj} (hb : Below w.drew.heap.size w.drew w1) : Below w.heap.size w (w1.alloc o) := ((Below.refl _ _).drew.trans hb).alloc hb.size _
theorem dec_b2 {w w1 : World} {o : Obj} (hb : Below (w.alloc o).drew.heap.size (w.alloc o).drew w1) : Below w.heap.size w w1 := ((below_box o).drew).trans (hb.mono (by simp))
theorem dec_b3 {w w1 : World} {o : Obj} (hb : Below w.drew.heap.size w.drew w1) : Below w.heap.size w (w1.alloc o).drew := (dec_b1 hb).drew
def decF : Nat → Int → List UInt8
  | 0, n => dg n
  | k + 1, n => if n < 10 then dg n else decF k (n / 10) ++ dg (n % 10)
theorem decF_len : ∀ (k : Nat) (n : Int), (decF k n).length ≤ k + 1
  | 0, n => by simp [decF, dg]
  | k + 1, n => by
    have := decF_len k (n / 10)
    rw [decF]
    split <;> simp [dg] <;> omega
set_option maxHeartbeats 2000000 in
theorem l01Dec_any : ∀ (k : Nat) {n : Int} (h : 0 ≤ n ∧ n < 10 ^ (k + 1)) (hm : n ≤ 9999999999999) (hk : k ≤ 20) (w : World),
    Calls Tryd.prog 37 #[.int .i64 n] w fun e w' => e = .returned (.string (bs (decF k n))) ∧ Below w.heap.size w w'
  | 0, n, h, hm, hk, w => l01Dec_small (by omega) w
  | k + 1, n, h, hm, hk, w => by
    by_cases hn : n < 10
    · rw [decF, if_pos hn]; exact l01Dec_small (by omega) w
    · have IH := Lib.hid (fun w => l01Dec_any k (n := n / 10) ⟨by omega, by have := h.2; rw [Int.pow_succ] at this; omega⟩ (by omega) (by omega) w)
      have hl := decF_len k (n / 10)
      have HX := Lib.hid (show decF (k + 1) n = decF k (n / 10) ++ dg (n % 10) by rw [decF, if_neg hn])
      obtain ⟨h0, _⟩ := h
      have e1 : n.tdiv 10 = n / 10 := Int.tdiv_eq_ediv_of_nonneg h0
      have e2 : n.tmod 10 = n % 10 := Int.tmod_eq_emod_of_nonneg h0
      have hq : 0 ≤ n / 10 ∧ n / 10 ≤ 9999999999999 := by omega
      have hx : 0 ≤ n % 10 ∧ n % 10 ≤ 9 := by omega
      have CV := Lib.hid (fun (w : World) (b : Nat) (hc : w.cell? ⟨b, 0, none⟩ = some (.int .u8 (48 + n % 10))) => conv_dg hx hc)
      generalize n / 10 = q at *
      generalize n % 10 = r at *
      have hdl : (dg r).length = 1 := rfl
      generalize dg r = D at *
      generalize decF k q = E at *
      obtain ⟨r0, r1⟩ := hx
      have wq : IntKind.i64.wrap q = q := IntWalk.i64_in _ (by omega)
      have w48 : IntKind.i64.wrap (48 + r) = 48 + r := IntWalk.i64_in _ (by omega)
      have w8 : IntKind.u8.wrap (48 + r) = 48 + r := IntWalk.u8_in _ (by omega)
      have BSZ := bs_size
      have BAD := bs_add
      go_enter Tryd.func37, Tryd.ntmps37
      go_wp2
      have cv0 := CV.out ((w.alloc (.cells #[.int .u8 (48 + r)] 5)).drew) w.heap.size (by simp)
      go_region_with (go_at_call 37; (try rw [wq]); with_reducible refine (IH.out _).mono ?_; rintro _ w1 ⟨rfl, hb1⟩; have cv1 := CV.out (w1.alloc (.cells #[.int .u8 (48 + r)] 5)) w1.heap.size (by simp); try (have cv2 := CV.out w1 w.heap.size (cell_kept hb1)))
      all_goals go_wp2
      all_goals go_ret
      all_goals first
        | exact ⟨by rw [HX.out]; rfl, dec_b1 hb1⟩
        | exact ⟨by rw [HX.out]; rfl, dec_b2 hb1⟩
        | exact ⟨by rw [HX.out]; rfl, dec_b3 hb1⟩

end Go.Proofs.YtcecmjnbhppocaaDoor
