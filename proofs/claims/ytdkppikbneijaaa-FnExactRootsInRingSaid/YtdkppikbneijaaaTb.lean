/- Contract: the reference's sort by insertion. -/
import Derived.Test.YtdkppikbneijaaaPc
import Derived.Test.YtdkppikbneijaaaTa
import Derived.BigQuiet
namespace Go.Proofs.Ytdkppikbneijaaa
open Go.RowKit
set_option linter.unusedVariables false
set_option linter.unusedSimpArgs false

/-- The place of x in out, found from k downwards. -/
def downTo (out : List Int) (x : Int) : Nat → Nat
  | 0 => 0
  | k + 1 => if el out k > x then downTo out x k else k + 1
theorem downTo_le (out : List Int) (x : Int) : ∀ k, downTo out x k ≤ k
  | 0 => Nat.le_refl _
  | k + 1 => by
    simp only [downTo]
    split
    · have := downTo_le out x k; omega
    · omega
theorem downTo_gt (out : List Int) (x : Int) : ∀ k j, downTo out x k ≤ j → j < k → el out j > x
  | 0, j, _, h => by omega
  | k + 1, j, h1, h2 => by
    simp only [downTo] at h1
    split at h1
    · rename_i hx
      by_cases hj : j = k
      · subst hj; exact hx
      · exact downTo_gt out x k j h1 (by omega)
    · omega
theorem downTo_stop (out : List Int) (x : Int) : ∀ k, 0 < downTo out x k → el out (downTo out x k - 1) ≤ x
  | 0, h => by simp [downTo] at h
  | k + 1, h => by
    simp only [downTo] at h ⊢
    split
    · rename_i hx; rw [if_pos hx] at h; exact downTo_stop out x k h
    · rename_i hx; simp; omega
def insAt (out : List Int) (x : Int) : Nat := downTo out x out.length
theorem insAt_le (out : List Int) (x : Int) : insAt out x ≤ out.length := downTo_le _ _ _
def insL (out : List Int) (x : Int) : List Int := out.take (insAt out x) ++ [x] ++ out.drop (insAt out x)
theorem insL_len (out : List Int) (x : Int) : (insL out x).length = out.length + 1 := by
  have := insAt_le out x
  simp [insL]; omega
theorem insL_perm (out : List Int) (x : Int) : (insL out x).Perm (out ++ [x]) := by
  unfold insL
  refine (List.Perm.trans (List.Perm.append_right _ List.perm_append_comm) ?_)
  rw [List.append_assoc, List.take_append_drop]
  exact List.perm_append_comm
theorem insL_sorted {out : List Int} {x : Int} (h : out.Pairwise (· ≤ ·)) : (insL out x).Pairwise (· ≤ ·) := by
  have hle := insAt_le out x
  rw [List.pairwise_iff_getElem] at h
  have hlt : ∀ a ∈ out.take (insAt out x), a ≤ x := by
    intro a ha
    obtain ⟨i, hi, rfl⟩ := List.mem_iff_getElem.1 ha
    rw [List.length_take] at hi
    have hp : 0 < insAt out x := by omega
    have h1 := downTo_stop out x out.length hp
    change el out (insAt out x - 1) ≤ x at h1
    rw [List.getElem_take]
    have he : el out (insAt out x - 1) = out[insAt out x - 1]'(by omega) := by simp [el, List.getD_eq_getElem?_getD, List.getElem?_eq_getElem (show insAt out x - 1 < out.length by omega)]
    rw [he] at h1
    by_cases hc : i = insAt out x - 1
    · subst hc; exact h1
    · exact Int.le_trans (h i (insAt out x - 1) (by omega) (by omega) (by omega)) h1
  have hgt : ∀ b ∈ out.drop (insAt out x), x ≤ b := by
    intro b hb
    obtain ⟨i, hi, rfl⟩ := List.mem_iff_getElem.1 hb
    rw [List.length_drop] at hi
    rw [List.getElem_drop]
    have h1 := downTo_gt out x out.length (insAt out x + i) (Nat.le_add_right _ _) (by omega)
    have he : el out (insAt out x + i) = out[insAt out x + i]'(by omega) := by simp [el, List.getD_eq_getElem?_getD, List.getElem?_eq_getElem (show insAt out x + i < out.length by omega)]
    rw [he] at h1
    omega
  have hpw : out.Pairwise (· ≤ ·) := List.pairwise_iff_getElem.2 h
  unfold insL
  rw [List.pairwise_append, List.pairwise_append]
  refine ⟨⟨hpw.sublist (List.take_sublist _ _), List.pairwise_singleton _ _, ?_⟩, hpw.sublist (List.drop_sublist _ _), ?_⟩
  · intro a ha b hb
    rw [List.mem_singleton] at hb
    subst hb
    exact hlt a ha
  · intro a ha b hb
    rcases List.mem_append.1 ha with h1 | h1
    · exact Int.le_trans (hlt a h1) (hgt b hb)
    · rw [List.mem_singleton] at h1
      subst h1
      exact hgt b hb
def isoL (zs : List Int) : Nat → List Int
  | 0 => []
  | i + 1 => insL (isoL zs i) (el zs i)
theorem isoL_len (zs : List Int) : ∀ i, (isoL zs i).length = i
  | 0 => rfl
  | i + 1 => by rw [isoL, insL_len, isoL_len zs i]
theorem isoL_sorted (zs : List Int) : ∀ i, (isoL zs i).Pairwise (· ≤ ·)
  | 0 => List.Pairwise.nil
  | i + 1 => insL_sorted (isoL_sorted zs i)
theorem isoL_perm (zs : List Int) : ∀ i, i ≤ zs.length → (isoL zs i).Perm (zs.take i)
  | 0, _ => by simp [isoL]
  | i + 1, h => by
    have he : zs[i]? = some (el zs i) := el_get (by omega)
    have ht : zs.take (i + 1) = zs.take i ++ [el zs i] := by rw [List.take_add_one, he]; rfl
    rw [isoL, ht]
    exact (insL_perm _ _).trans ((isoL_perm zs i (by omega)).append_right _)
theorem isoL_sort (zs : List Int) : isoL zs zs.length = sortL zs := by
  have h1 : (isoL zs zs.length).Perm (sortL zs) := by
    have := isoL_perm zs zs.length (Nat.le_refl _)
    rw [List.take_length] at this
    exact this.trans (List.mergeSort_perm zs _).symm
  have h2 : (sortL zs).Pairwise (· ≤ ·) := by
    have := List.pairwise_mergeSort (le := fun x y : Int => decide (x ≤ y)) (by intro a b c; simp; omega) (by intro a b; simp; omega) zs
    exact this.imp (by intro a b h; simpa using h)
  exact h1.eq_of_pairwise (by intro a b _ _ h1 h2; omega) (isoL_sorted zs _) h2

theorem Reads.atK {w : World} {a : Option Addr} {n cap : Nat} {zs : List Int} (h : Reads w (.slice a n cap) zs) {k : Nat} (hk : k < zs.length) : ∃ b o, a = some ⟨b, o, none⟩ ∧ w.cell? ⟨b, o + k, none⟩ = some (.int .i64 (el zs k)) ∧ b < w.heap.size := by
  obtain ⟨_, a', cap', hv, _, _, hc⟩ := h
  injection hv with e1 _ _
  subst e1
  obtain ⟨b, o, rfl, h4, h5⟩ := hc (by omega)
  exact ⟨b, o, rfl, h5 k hk, h4⟩
theorem below_drewN {w : World} {n : Nat} : Below w.heap.size w (w.drewN n) := ⟨rfl, rfl, rfl, Nat.le_refl _, fun _ _ => rfl⟩
theorem newC {wr w3 : World} {x : Value} {t : TypeId} {n : Nat} (h : Below ((wr.alloc (.cells #[x] t)).drewN n).heap.size ((wr.alloc (.cells #[x] t)).drewN n) w3) : w3.cell? ⟨wr.heap.size, 0, none⟩ = some x := by
  rw [h.cell (p := ⟨wr.heap.size, 0, none⟩) (by simp)]
  exact one_new wr x t 0 _ rfl
theorem newC2 {wr w3 : World} {x : Value} {t : TypeId} {n : Nat} (h : Below ((wr.drewN n).alloc (.cells #[x] t)).heap.size ((wr.drewN n).alloc (.cells #[x] t)) w3) : w3.cell? ⟨wr.heap.size, 0, none⟩ = some x := by
  rw [h.cell (p := ⟨wr.heap.size, 0, none⟩) (by simp)]
  exact one_new (wr.drewN n) x t 0 _ rfl
theorem news1 {w : World} {g : Nat} {x : Int} (h : w.cell? ⟨g, 0, none⟩ = some (.int .i64 x)) : ∀ (j : Nat) (u : Value), (ints [x])[j]? = some u → w.cell? ((⟨g, 0, none⟩ : Addr).add j) = some u := by
  intro j u hu
  rw [Addr.add_lit]
  cases j with
  | zero => rw [Nat.zero_add, h]; simpa [ints] using hu
  | succ j => simp [ints] at hu
set_option maxHeartbeats 4000000 in
set_option maxRecDepth 100000 in
theorem l11Sorted_any {v : Value} {zs : List Int} {w : World} (h : Reads w v zs) :
    Calls Try.prog 14 #[v] w (RetInts (sortL zs) w) := by
  have HR := Lib.hid h
  obtain ⟨n, hn⟩ : ∃ n, n = zs.length := ⟨_, rfl⟩
  have HN := Lib.hid hn
  obtain ⟨hL, a, cap0, rfl, hcap0, hmax0, hcell⟩ := h
  rw [← hn] at hL hcap0 HR
  rw [← hn]
  clear hn hcell
  have HX := Lib.hid hmax0
  clear hmax0
  go_enter Try.func14, Try.ntmps14
  go_wp2
  go_loopw [3, 4] (fun l c wr => ∃ (i : Nat) (g cap : Nat), c = .int .i64 (i : Int) ∧ i ≤ n ∧ l = .slice (some ⟨g, 0, none⟩) i cap ∧ Own wr w.heap.size (.slice (some ⟨g, 0, none⟩) i cap) (isoL zs i) ∧ Below w.heap.size w wr) (fun _ c _ => n - (intOf c).toNat)
  case atStart => exact ⟨0, _, _, rfl, by omega, rfl, Own.empty (Nat.le_refl _), below_box _⟩
  case round =>
    obtain ⟨i, g, cap, rfl, hi, rfl, hown, hbel⟩ := hrel
    have HO := Lib.hid hown
    have HB := Lib.hid hbel
    have hsz := hbel.size
    clear hown hbel
    by_cases hlt : i < n
    · have HLE := Lib.hid (isoL_len zs i)
      go_wp2
      go_loopw [5] (fun c wr2 => ∃ k : Nat, c = .int .i64 (k : Int) ∧ k ≤ i ∧ Hid (downTo (isoL zs i) (el zs i) k = insAt (isoL zs i) (el zs i)) ∧ Own wr2 w.heap.size (.slice (some ⟨g, 0, none⟩) i cap) (isoL zs i) ∧ Below w.heap.size w wr2) (fun c _ => (intOf c).toNat)
      case atStart => exact ⟨i, rfl, Nat.le_refl _, Lib.hid (by rw [insAt, HLE.out]), HO.out, HB.out⟩
      case round =>
        clear HO HB hsz
        obtain ⟨k, rfl, hk, HD, hown, hbel⟩ := hrel
        have HO := Lib.hid hown
        have HB := Lib.hid hbel
        have hsz := hbel.size
        clear hown hbel
        obtain ⟨b, o, rfl, hc, hb⟩ := Reads.atK (HR.out.step HB.out) (k := i) (by have := HN.out; omega)
        by_cases hin : ∃ m, k = m + 1 ∧ el zs i < el (isoL zs i) m
        · obtain ⟨m, rfl, hgt⟩ := hin
          have f1 : wr.cell? ⟨g, m, none⟩ = some (.int .i64 (el (isoL zs i) m)) := HO.out.cellAt (by rw [HLE.out]; omega)
          have HD2 := Lib.hid (show downTo (isoL zs i) (el zs i) m = insAt (isoL zs i) (el zs i) by rw [← HD.out, downTo, if_pos hgt])
          clear HD
          go_wp2
          go_quiet (fail)
          go_wp2
          go_round
          case rel => exact ⟨m, by go_num, by omega, HD2, HO.out.step below_drewN, HB.out.trans (below_drewN.mono HB.out.size)⟩
          case measure => simp [intOf]
        · have HA := Lib.hid (show k = insAt (isoL zs i) (el zs i) by
            rw [← HD.out]
            cases k with
            | zero => rfl
            | succ m => rw [downTo, if_neg (fun h => hin ⟨m, rfl, h⟩)])
          obtain ⟨hik, hcap⟩ : i ≤ cap ∧ cap ≤ maxLen := by
            obtain ⟨a1, cap1, e1, e2, e3, _⟩ := HO.out.shape
            injection e1 with _ _ e1
            subst e1
            rw [HLE.out] at e2
            exact ⟨e2, e3⟩
          have hcap2 : cap ≤ 9223372036854775807 := by unfold maxLen at hcap; omega
          have HTL := Lib.hid (show ((isoL zs i).take k).length = k by rw [List.length_take, HLE.out]; omega)
          have HDL := Lib.hid (show ((isoL zs i).drop k).length = i - k by rw [List.length_drop, HLE.out])
          have hkc : k ≤ cap := by omega
          have hkm : k = 0 ∨ ∃ m, k = m + 1 ∧ ¬ el zs i < el (isoL zs i) m := by
            cases k with
            | zero => exact .inl rfl
            | succ m => exact .inr ⟨m, rfl, fun h => hin ⟨m, rfl, h⟩⟩
          clear hin hcap HD
          have hiL : i ≤ 1099511627776 := by have := HO.out.1; rw [HLE.out] at this; exact this
          rcases hkm with hk0 | ⟨m, hk0, hgt⟩
          · subst hk0
            go_wp2
            go_quiet (fail)
            have HTq := Lib.hid ((HO.out.step (below_drewN (n := nq + 1))).reads.take (k := 0) (by rw [HLE.out]; omega))
            have HL40 := Lib.hid (show ((isoL zs i).take 0).length + 1 ≤ 1099511627776 by rw [HTL.out]; omega)
            have HL44 := Lib.hid (show ((isoL zs i).take 0 ++ [el zs i]).length + (i - 0) ≤ 1099511627776 by rw [List.length_append, HTL.out]; simp; omega)
            by_cases hcc : cap = 0
            · have hiK : i = 0 := by omega
              have HD0 := Lib.hid (show ((isoL zs i).drop 0).length = 0 by rw [HDL.out]; omega)
              have HL0 := Lib.hid (show ((isoL zs i).take 0 ++ [el zs i]).length + 0 ≤ 1099511627776 by have := HL44.out; omega)
              subst hcc
              subst hiK
              try simp only [Nat.add_zero] at hc
              go_wp2
              go_region_law (first
                | (refine step_append_ints (L := (isoL zs 0).take 0 ++ [el zs 0]) (M := (isoL zs 0).drop 0) (ad := ⟨g, 0, none⟩) (m := 0) (c := 0) rfl (.tmp 40) (.tmp 43) rfl (by simp [Act.eval, Act.put]) HC4.out (by simp [Act.eval, Act.put]) HD0.out (news_none (Nat.le_of_eq HLE.out)) HL0.out HB4.out.size ?_; intro v5 w5 o5 g5 b5)
                | (refine step_append_ints (L := (isoL zs 0).take 0) (M := [el zs 0]) (ad := ⟨w3.heap.size, 0, none⟩) (m := 1) (c := 1) rfl (.tmp 34) (.tmp 39) rfl (by simp [Act.eval, Act.put]) (HC3.out.alloc _) (by simp [Act.eval, Act.put]) rfl (one_new w3 _ _) HL40.out (by have := HB3.out.size; simp; omega) ?_; intro v4 w4 o4 g4 b4; have HC4 := Lib.hid o4; have HB4 := Lib.hid ((HB3.out.alloc HB3.out.size _).trans b4))
                | (have hq0 : w3.cell? ⟨wr.heap.size, 0, none⟩ = some (.int .i64 (el zs 0)) := (HX3.out.cell (p := ⟨wr.heap.size, 0, none⟩) (by simp)).trans (by first | exact one_new (wr.drewN (nq + 1)) _ _ 0 _ rfl | exact one_new wr _ _ 0 _ rfl | (simp; done) | (simp [World.cell?, World.alloc]; done)); refine step_append_ints (L := (isoL zs 0).take 0) (M := [el zs 0]) (ad := ⟨wr.heap.size, 0, none⟩) (m := 1) (c := 1) rfl (.tmp 34) (.tmp 39) rfl (by simp [Act.eval, Act.put]) HC3.out (by simp [Act.eval, Act.put]) rfl (news1 hq0) HL40.out HB3.out.size ?_; intro v4 w4 o4 g4 b4; have HC4 := Lib.hid o4; have HB4 := Lib.hid (HB3.out.trans b4))
                | (go_simp; go_wp2_with (go_at_call 22; (with_reducible refine (l01Own_any HTL.out (by first | exact HTq.out | exact HTq.out.step (below_box _))).mono ?_); rintro e3 w3 ⟨v3, rfl, o3, b3⟩; have HB3 := Lib.hid (show Below wr.heap.size wr w3 by first | exact below_drewN.trans b3 | exact (below_drewN.alloc (Nat.le_refl _) _).trans (b3.mono (by simp))); have HC3 := Lib.hid (o3.mono (show wr.heap.size ≤ _ by simp)); have hc3 := (HB3.out.cell (p := ⟨b, o + 0, none⟩) hb).trans hc; (try simp only [Nat.add_zero] at hc3); have HX3 := Lib.hid b3; clear o3 b3)))
              all_goals
                have HO5 := Lib.hid (show Own w5 w.heap.size v5 (isoL zs (0 + 1)) by show Own w5 w.heap.size v5 (insL (isoL zs 0) (el zs 0)); rw [insL, ← HA.out]; exact o5.mono hsz)
                have HB5 := Lib.hid (show Below w.heap.size w w5 from HB.out.trans ((HB4.out.trans b5).mono hsz))
                obtain ⟨g6, cap6, e6, _⟩ := HO5.out.head (by rw [isoL_len]; omega)
                rw [isoL_len] at e6
                subst e6
                clear o5 g5 b5
                go_wp2
                go_roundw
                case rel => exact ⟨0 + 1, g6, cap6, by go_num, by omega, rfl, HO5.out, HB5.out⟩
                case measure => simp [intOf]; omega
            · go_wp2
              go_region_law (first
                | (refine step_append_ints (L := (isoL zs i).take 0 ++ [el zs i]) (M := (isoL zs i).drop 0) (ad := ⟨g, 0, none⟩) (m := i - 0) (c := cap - 0) rfl (.tmp 40) (.tmp 43) rfl (by simp [Act.eval, Act.put]) HC4.out (by simp [Act.eval, Act.put]) HDL.out (((HO.out.step HB4.out).news 0)) HL44.out HB4.out.size ?_; intro v5 w5 o5 g5 b5)
                | (refine step_append_ints (L := (isoL zs i).take 0) (M := [el zs i]) (ad := ⟨w3.heap.size, 0, none⟩) (m := 1) (c := 1) rfl (.tmp 34) (.tmp 39) rfl (by simp [Act.eval, Act.put]) (HC3.out.alloc _) (by simp [Act.eval, Act.put]) rfl (one_new w3 _ _) HL40.out (by have := HB3.out.size; simp; omega) ?_; intro v4 w4 o4 g4 b4; have HC4 := Lib.hid o4; have HB4 := Lib.hid ((HB3.out.alloc HB3.out.size _).trans b4))
                | (have hq0 : w3.cell? ⟨wr.heap.size, 0, none⟩ = some (.int .i64 (el zs i)) := (HX3.out.cell (p := ⟨wr.heap.size, 0, none⟩) (by simp)).trans (by first | exact one_new (wr.drewN (nq + 1)) _ _ 0 _ rfl | exact one_new wr _ _ 0 _ rfl | (simp; done) | (simp [World.cell?, World.alloc]; done)); refine step_append_ints (L := (isoL zs i).take 0) (M := [el zs i]) (ad := ⟨wr.heap.size, 0, none⟩) (m := 1) (c := 1) rfl (.tmp 34) (.tmp 39) rfl (by simp [Act.eval, Act.put]) HC3.out (by simp [Act.eval, Act.put]) rfl (news1 hq0) HL40.out HB3.out.size ?_; intro v4 w4 o4 g4 b4; have HC4 := Lib.hid o4; have HB4 := Lib.hid (HB3.out.trans b4))
                | (go_simp; go_wp2_with (go_at_call 22; (with_reducible refine (l01Own_any HTL.out (by first | exact HTq.out | exact HTq.out.step (below_box _))).mono ?_); rintro e3 w3 ⟨v3, rfl, o3, b3⟩; have HB3 := Lib.hid (show Below wr.heap.size wr w3 by first | exact below_drewN.trans b3 | exact (below_drewN.alloc (Nat.le_refl _) _).trans (b3.mono (by simp))); have HC3 := Lib.hid (o3.mono (show wr.heap.size ≤ _ by simp)); have hc3 := (HB3.out.cell (p := ⟨b, o + i, none⟩) hb).trans hc; (try simp only [Nat.add_zero] at hc3); have HX3 := Lib.hid b3; clear o3 b3)))
              all_goals
                have HO5 := Lib.hid (show Own w5 w.heap.size v5 (isoL zs (i + 1)) by show Own w5 w.heap.size v5 (insL (isoL zs i) (el zs i)); rw [insL, ← HA.out]; exact o5.mono hsz)
                have HB5 := Lib.hid (show Below w.heap.size w w5 from HB.out.trans ((HB4.out.trans b5).mono hsz))
                obtain ⟨g6, cap6, e6, _⟩ := HO5.out.head (by rw [isoL_len]; omega)
                rw [isoL_len] at e6
                subst e6
                clear o5 g5 b5
                go_wp2
                go_roundw
                case rel => exact ⟨i + 1, g6, cap6, by go_num, by omega, rfl, HO5.out, HB5.out⟩
                case measure => simp [intOf]; omega
          · have f1 : wr.cell? ⟨g, m, none⟩ = some (.int .i64 (el (isoL zs i) m)) := HO.out.cellAt (by rw [HLE.out]; omega)
            subst hk0
            go_wp2
            go_quiet (fail)
            have hz1 : (0:Int) ≤ (m : Int) + 1 := by omega
            have hz2 : (m : Int) + 1 ≤ (cap : Int) := by omega
            have hz3 : (m : Int) + 1 ≤ (i : Int) := by omega
            have HTq := Lib.hid ((HO.out.step (below_drewN (n := nq + 1))).reads.take (k := (m + 1)) (by rw [HLE.out]; omega))
            have HL40 := Lib.hid (show ((isoL zs i).take (m + 1)).length + 1 ≤ 1099511627776 by rw [HTL.out]; omega)
            have HL44 := Lib.hid (show ((isoL zs i).take (m + 1) ++ [el zs i]).length + (i - (m + 1)) ≤ 1099511627776 by rw [List.length_append, HTL.out]; simp; omega)
            by_cases hcc : cap = (m + 1)
            · have hiK : i = (m + 1) := by omega
              have HD0 := Lib.hid (show ((isoL zs i).drop (m + 1)).length = 0 by rw [HDL.out]; omega)
              have HL0 := Lib.hid (show ((isoL zs i).take (m + 1) ++ [el zs i]).length + 0 ≤ 1099511627776 by have := HL44.out; omega)
              subst hcc
              subst hiK
              try simp only [Nat.add_zero] at hc
              have hz4 : (m : Int) + 1 < (n : Int) := by omega
              go_wp2
              go_region_law (first
                | (refine step_append_ints (L := (isoL zs (m + 1)).take (m + 1) ++ [el zs (m + 1)]) (M := (isoL zs (m + 1)).drop (m + 1)) (ad := ⟨g, 0, none⟩) (m := 0) (c := 0) rfl (.tmp 40) (.tmp 43) rfl (by simp [Act.eval, Act.put]) HC4.out (by simp [Act.eval, Act.put]) HD0.out (news_none (Nat.le_of_eq HLE.out)) HL0.out HB4.out.size ?_; intro v5 w5 o5 g5 b5)
                | (refine step_append_ints (L := (isoL zs (m + 1)).take (m + 1)) (M := [el zs (m + 1)]) (ad := ⟨w3.heap.size, 0, none⟩) (m := 1) (c := 1) rfl (.tmp 34) (.tmp 39) rfl (by simp [Act.eval, Act.put]) (HC3.out.alloc _) (by simp [Act.eval, Act.put]) rfl (one_new w3 _ _) HL40.out (by have := HB3.out.size; simp; omega) ?_; intro v4 w4 o4 g4 b4; have HC4 := Lib.hid o4; have HB4 := Lib.hid ((HB3.out.alloc HB3.out.size _).trans b4))
                | (have hq0 : w3.cell? ⟨wr.heap.size, 0, none⟩ = some (.int .i64 (el zs (m + 1))) := (HX3.out.cell (p := ⟨wr.heap.size, 0, none⟩) (by simp)).trans (by first | exact one_new (wr.drewN (nq + 1)) _ _ 0 _ rfl | exact one_new wr _ _ 0 _ rfl | (simp; done) | (simp [World.cell?, World.alloc]; done)); refine step_append_ints (L := (isoL zs (m + 1)).take (m + 1)) (M := [el zs (m + 1)]) (ad := ⟨wr.heap.size, 0, none⟩) (m := 1) (c := 1) rfl (.tmp 34) (.tmp 39) rfl (by simp [Act.eval, Act.put]) HC3.out (by simp [Act.eval, Act.put]) rfl (news1 hq0) HL40.out HB3.out.size ?_; intro v4 w4 o4 g4 b4; have HC4 := Lib.hid o4; have HB4 := Lib.hid (HB3.out.trans b4))
                | (go_simp; go_wp2_with (go_at_call 22; (with_reducible refine (l01Own_any HTL.out (by first | exact HTq.out | exact HTq.out.step (below_box _))).mono ?_); rintro e3 w3 ⟨v3, rfl, o3, b3⟩; have HB3 := Lib.hid (show Below wr.heap.size wr w3 by first | exact below_drewN.trans b3 | exact (below_drewN.alloc (Nat.le_refl _) _).trans (b3.mono (by simp))); have HC3 := Lib.hid (o3.mono (show wr.heap.size ≤ _ by simp)); have hc3 := (HB3.out.cell (p := ⟨b, o + (m + 1), none⟩) hb).trans hc; (try simp only [Nat.add_zero] at hc3); have HX3 := Lib.hid b3; clear o3 b3)))
              all_goals
                have HO5 := Lib.hid (show Own w5 w.heap.size v5 (isoL zs ((m + 1) + 1)) by show Own w5 w.heap.size v5 (insL (isoL zs (m + 1)) (el zs (m + 1))); rw [insL, ← HA.out]; exact o5.mono hsz)
                have HB5 := Lib.hid (show Below w.heap.size w w5 from HB.out.trans ((HB4.out.trans b5).mono hsz))
                obtain ⟨g6, cap6, e6, _⟩ := HO5.out.head (by rw [isoL_len]; omega)
                rw [isoL_len] at e6
                subst e6
                clear o5 g5 b5
                go_wp2
                go_roundw
                case rel => exact ⟨(m + 1) + 1, g6, cap6, by go_num, by omega, rfl, HO5.out, HB5.out⟩
                case measure => simp [intOf]; omega
            · go_wp2
              go_region_law (first
                | (refine step_append_ints (L := (isoL zs i).take (m + 1) ++ [el zs i]) (M := (isoL zs i).drop (m + 1)) (ad := ⟨g, (m + 1), none⟩) (m := i - (m + 1)) (c := cap - (m + 1)) rfl (.tmp 40) (.tmp 43) rfl (by simp [Act.eval, Act.put]) HC4.out (by simp [Act.eval, Act.put]) HDL.out (((HO.out.step HB4.out).news (m + 1))) HL44.out HB4.out.size ?_; intro v5 w5 o5 g5 b5)
                | (refine step_append_ints (L := (isoL zs i).take (m + 1)) (M := [el zs i]) (ad := ⟨w3.heap.size, 0, none⟩) (m := 1) (c := 1) rfl (.tmp 34) (.tmp 39) rfl (by simp [Act.eval, Act.put]) (HC3.out.alloc _) (by simp [Act.eval, Act.put]) rfl (one_new w3 _ _) HL40.out (by have := HB3.out.size; simp; omega) ?_; intro v4 w4 o4 g4 b4; have HC4 := Lib.hid o4; have HB4 := Lib.hid ((HB3.out.alloc HB3.out.size _).trans b4))
                | (have hq0 : w3.cell? ⟨wr.heap.size, 0, none⟩ = some (.int .i64 (el zs i)) := (HX3.out.cell (p := ⟨wr.heap.size, 0, none⟩) (by simp)).trans (by first | exact one_new (wr.drewN (nq + 1)) _ _ 0 _ rfl | exact one_new wr _ _ 0 _ rfl | (simp; done) | (simp [World.cell?, World.alloc]; done)); refine step_append_ints (L := (isoL zs i).take (m + 1)) (M := [el zs i]) (ad := ⟨wr.heap.size, 0, none⟩) (m := 1) (c := 1) rfl (.tmp 34) (.tmp 39) rfl (by simp [Act.eval, Act.put]) HC3.out (by simp [Act.eval, Act.put]) rfl (news1 hq0) HL40.out HB3.out.size ?_; intro v4 w4 o4 g4 b4; have HC4 := Lib.hid o4; have HB4 := Lib.hid (HB3.out.trans b4))
                | (go_simp; go_wp2_with (go_at_call 22; (with_reducible refine (l01Own_any HTL.out (by first | exact HTq.out | exact HTq.out.step (below_box _))).mono ?_); rintro e3 w3 ⟨v3, rfl, o3, b3⟩; have HB3 := Lib.hid (show Below wr.heap.size wr w3 by first | exact below_drewN.trans b3 | exact (below_drewN.alloc (Nat.le_refl _) _).trans (b3.mono (by simp))); have HC3 := Lib.hid (o3.mono (show wr.heap.size ≤ _ by simp)); have hc3 := (HB3.out.cell (p := ⟨b, o + i, none⟩) hb).trans hc; (try simp only [Nat.add_zero] at hc3); have HX3 := Lib.hid b3; clear o3 b3)))
              all_goals
                have HO5 := Lib.hid (show Own w5 w.heap.size v5 (isoL zs (i + 1)) by show Own w5 w.heap.size v5 (insL (isoL zs i) (el zs i)); rw [insL, ← HA.out]; exact o5.mono hsz)
                have HB5 := Lib.hid (show Below w.heap.size w w5 from HB.out.trans ((HB4.out.trans b5).mono hsz))
                obtain ⟨g6, cap6, e6, _⟩ := HO5.out.head (by rw [isoL_len]; omega)
                rw [isoL_len] at e6
                subst e6
                clear o5 g5 b5
                go_wp2
                go_roundw
                case rel => exact ⟨i + 1, g6, cap6, by go_num, by omega, rfl, HO5.out, HB5.out⟩
                case measure => simp [intOf]; omega
    · obtain rfl : i = n := by omega
      have HE := Lib.hid (show Own wr w.heap.size (.slice (some ⟨g, 0, none⟩) i cap) (sortL zs) by rw [← isoL_sort, ← HN.out]; exact HO.out)
      go_wp2
      go_ret
      exact ⟨_, rfl, HE.out, HB.out⟩

end Go.Proofs.Ytdkppikbneijaaa
