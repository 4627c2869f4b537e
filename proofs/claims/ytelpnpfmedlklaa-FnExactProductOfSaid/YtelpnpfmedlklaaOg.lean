/- Contracts: products of polynomials. -/
import Derived.Test.YtelpnpfmedlklaaOf
import Derived.Test.YtelpnpfmedlklaaT
namespace Go.Proofs.Ytelpnpfmedlklaa
open Go.RowKit
set_option linter.unusedVariables false
set_option linter.unusedSimpArgs false

/-- 'make([]int64, N)'. -/
theorem make_ints {ops : Array Oper} {rest : List Oper} {o : Oper} {a : Act} {Q : Exit → Act → World → Prop} (w : World) (hgd : o.guard = none) (l c : Operand) (hop : o.op = Op.makeSlice 24 l c)
    (N : Nat) {L C : Int} (hl : a.eval l = .int .i64 L) (hc : a.eval c = .int .i64 C) (hL : L = (N : Int)) (hC : C = (N : Int)) (hN : N ≤ 1099511627776)
    (h : ∀ w', Own w' w.heap.size (.slice (some ⟨w.heap.size, 0, none⟩) N N) (List.replicate N 0) → Below w.heap.size w w' → w.heap.size < w'.heap.size → wpList Try.prog ops Q rest (a.put o.dst (.slice (some ⟨w.heap.size, 0, none⟩) N N)) w') :
    wpList Try.prog ops Q (o :: rest) a w := by
  obtain ⟨i0, hi, hz0, hz1, hz2⟩ := info_parts info64
  refine wpList_make_full w hgd l c 24 hop w.heap.size 2 i0 (.int .i64 0) 1 Try.underlying24 hi hz0 hz1 .i64 .i64 L C N hl hc hL hC (by rw [hz2]; omega) (by unfold maxLen; omega) (Nat.le_refl _) ?_
  intro w' hown hgrow
  have ho : Own w' w.heap.size (.slice (some ⟨w.heap.size, 0, none⟩) N N) (List.replicate N 0) := by
    rw [Nat.mul_one, show (Value.int .i64 0).cells = #[Value.int .i64 0] from rfl, made_zeros] at hown
    exact ⟨by simpa using hN, by rw [List.length_replicate]; exact hown⟩
  exact h w' ho ((Below.refl _ _).grown hgrow (Nat.le_refl _) (fun k hk => by cases hk)) (ho.lt w.heap.size rfl).2
theorem prod_cells {f g : List Int} {i k : Nat} (hi : i < f.length) (hk : k < g.length) : i + k < (rowP f g i (prodP f g i) k).length := by rw [rowP_len, prodP_len]; omega
theorem prod_step {f g : List Int} {a b : Int} (hf : Bd a f) (hg : Bd b g) (ha : 0 ≤ a ∧ a ≤ 1000000) (hb : 0 ≤ b ∧ b ≤ 1000000) (h1 : f.length ≤ 1000) (h2 : g.length ≤ 1000) {i : Nat} (hi : i < f.length) {k : Nat} (hk : k < g.length) :
    (-1000000000000 ≤ el f i * el g k ∧ el f i * el g k ≤ 1000000000000) ∧ (-2000000000000000000 ≤ el (rowP f g i (prodP f g i) k) (i + k) ∧ el (rowP f g i (prodP f g i) k) (i + k) ≤ 2000000000000000000) := by
  have h3 := abs_mul_le (hf i) (hg k)
  have h4 : a * b ≤ 1000000 * 1000000 := Int.mul_le_mul ha.2 hb.2 hb.1 (by omega)
  exact ⟨by omega, prod_num hf hg ha hb h1 h2 hi (by omega) (i + k)⟩

set_option maxHeartbeats 2000000 in
theorem productOf_any {a b : Int} {v u : Value} {f g : List Int} {w : World} (h : Reads w v f) (h' : Reads w u g) (hf : Bd a f) (hg : Bd b g) (ha : 0 ≤ a ∧ a ≤ 1000000) (hb : 0 ≤ b ∧ b ≤ 1000000) (l1 : f.length ≤ 1000) (l2 : g.length ≤ 1000) :
    Calls Try.prog 37 #[v, u] w (RetInts (mulL f g) w) := by
  obtain ⟨a1, c1, rfl, k1, k2⟩ := reads_nil_eq h
  obtain ⟨a2, c2, rfl, k3, k4⟩ := reads_nil_eq h'
  have HR := Lib.hid h
  have HS := Lib.hid h'
  have HF := Lib.hid hf
  have HG := Lib.hid hg
  clear h h' k2 k4 hf hg
  obtain ⟨n, hn⟩ : ∃ n, f.length = n := ⟨_, rfl⟩
  obtain ⟨m, hm⟩ : ∃ m, g.length = m := ⟨_, rfl⟩
  rw [hn] at k1 l1 HR ⊢
  rw [hm] at k3 l2 HS ⊢
  have HN := Lib.hid hn
  have HM := Lib.hid hm
  clear hn hm
  by_cases hz : n = 0 ∨ m = 0
  · have HZ := Lib.hid (show mulL f g = [] by unfold mulL; rw [if_pos (by rw [HN.out, HM.out]; exact hz)])
    by_cases hz1 : n = 0
    · subst hz1
      clear hz
      go_enter Try.func37, Try.ntmps37
      go_wp2
      go_ret
      exact ⟨_, rfl, by rw [HZ.out]; exact Own.nil, Below.refl _ _⟩
    · obtain rfl : m = 0 := by omega
      clear hz
      go_enter Try.func37, Try.ntmps37
      go_wp2
      go_ret
      exact ⟨_, rfl, by rw [HZ.out]; exact Own.nil, Below.refl _ _⟩
  · have hn0 : 0 < n := by omega
    have hm0 : 0 < m := by omega
    have hn1 : ((n : Int) == 0) = false := by simp; omega
    have hm1 : ((m : Int) == 0) = false := by simp; omega
    have HZ := Lib.hid (show mulL f g = trimL (prodP f g n) by unfold mulL; rw [if_neg (by rw [HN.out, HM.out]; exact hz), HN.out])
    clear hz
    go_enter Try.func37, Try.ntmps37
    go_wp2_with (at_make; refine make_ints _ rfl _ _ rfl (n + m - 1) rfl rfl (by omega) (by omega) (by omega) ?_)
    intro w1 ho hb1 hs1
    have HO := Lib.hid (show Own w1 w.heap.size (.slice (some ⟨w.heap.size, 0, none⟩) (n + m - 1) (n + m - 1)) (prodP f g 0) by rw [prodP, HN.out, HM.out]; exact ho)
    have HB := Lib.hid hb1
    clear ho hb1
    go_wp2
    go_loopw [27] (fun c wr => ∃ i : Nat, c = .int .i64 (i : Int) ∧ i ≤ n ∧ Own wr w.heap.size (.slice (some ⟨w.heap.size, 0, none⟩) (n + m - 1) (n + m - 1)) (prodP f g i) ∧ Below w.heap.size w wr) (fun c _ => n - (intOf c).toNat)
    case atStart => exact ⟨0, rfl, by omega, HO.out, HB.out⟩
    case round =>
      clear HO HB
      obtain ⟨i, rfl, hi, ho, hbel⟩ := hrel
      have HO := Lib.hid ho
      have HB := Lib.hid hbel
      clear ho hbel
      have HR1 := Lib.hid (HR.out.step HB.out)
      by_cases hlt : i < n
      · obtain ⟨b1, o1, rfl, hc1⟩ := HR1.out.at (k := i) (by rw [HN.out]; exact hlt)
        go_wp2
        go_loopw [34] (fun c wr => ∃ k : Nat, c = .int .i64 (k : Int) ∧ k ≤ m ∧ Own wr w.heap.size (.slice (some ⟨w.heap.size, 0, none⟩) (n + m - 1) (n + m - 1)) (rowP f g i (prodP f g i) k) ∧ Below w.heap.size w wr) (fun c _ => m - (intOf c).toNat)
        case atStart => exact ⟨0, rfl, by omega, HO.out, HB.out⟩
        case round =>
          clear HO HB HR1 hc1
          obtain ⟨k, rfl, hk, ho, hbel⟩ := hrel
          have HO := Lib.hid ho
          have HB := Lib.hid hbel
          clear ho hbel
          have HS1 := Lib.hid (HS.out.step HB.out)
          by_cases hlt2 : k < m
          · obtain ⟨b2, o2, rfl, hc2⟩ := HS1.out.at (k := k) (by rw [HM.out]; exact hlt2)
            have f2 := HO.out.cellAt (i := i + k) (prod_cells (by rw [HN.out]; exact hlt) (by rw [HM.out]; exact hlt2))
            have f3 := HO.out.frozenAt (i + k)
            obtain ⟨⟨q1, q2⟩, q3, q4⟩ := prod_step HF.out HG.out ha hb (by rw [HN.out]; exact l1) (by rw [HM.out]; exact l2) (i := i) (by rw [HN.out]; exact hlt) (k := k) (by rw [HM.out]; exact hlt2)
            go_wp2
            obtain ⟨g1, g2⟩ := HO.out.stored (i + k) (el (rowP f g i (prodP f g i) k) (i + k) + el f i * el g k)
            go_roundw
            case rel => exact ⟨k + 1, by go_num, by omega, g1, HB.out.setCell (Nat.le_refl _) _⟩
            case measure => simp [intOf]; omega
          · obtain rfl : k = m := by omega
            go_wp2
            go_roundw
            case rel => exact ⟨i + 1, by go_num, by omega, by rw [prodP, HM.out]; exact HO.out, HB.out⟩
            case measure => simp [intOf]; omega
      · obtain rfl : i = n := by omega
        go_wp2_with (go_at_call 42; with_reducible refine (trim_any HO.out.reads).mono ?_)
        rintro _ w2 ⟨v1, rfl, o1, b1⟩
        go_wp2
        go_ret
        exact ⟨v1, rfl, by rw [HZ.out]; exact o1.mono HB.out.size, HB.out.trans (b1.mono HB.out.size)⟩

set_option maxHeartbeats 2000000 in
theorem l06Multiply_any {a b : Int} {v u : Value} {f g : List Int} {w : World} (h : Reads w v f) (h' : Reads w u g) (hf : Bd a f) (hg : Bd b g) (ha : 0 ≤ a ∧ a ≤ 1000000) (hb : 0 ≤ b ∧ b ≤ 1000000) (l1 : f.length ≤ 1000) (l2 : g.length ≤ 1000) :
    Calls Try.prog 30 #[v, u] w (RetInts (mulL f g) w) := by
  obtain ⟨a1, c1, rfl, k1, k2⟩ := reads_nil_eq h
  obtain ⟨a2, c2, rfl, k3, k4⟩ := reads_nil_eq h'
  have HR := Lib.hid h
  have HS := Lib.hid h'
  have HF := Lib.hid hf
  have HG := Lib.hid hg
  clear h h' k2 k4 hf hg
  obtain ⟨n, hn⟩ : ∃ n, f.length = n := ⟨_, rfl⟩
  obtain ⟨m, hm⟩ : ∃ m, g.length = m := ⟨_, rfl⟩
  rw [hn] at k1 l1 HR ⊢
  rw [hm] at k3 l2 HS ⊢
  have HN := Lib.hid hn
  have HM := Lib.hid hm
  clear hn hm
  by_cases hz : n = 0 ∨ m = 0
  · have HZ := Lib.hid (show mulL f g = [] by unfold mulL; rw [if_pos (by rw [HN.out, HM.out]; exact hz)])
    by_cases hz1 : n = 0
    · subst hz1
      clear hz
      go_enter Try.func30, Try.ntmps30
      go_wp2
      go_ret
      exact ⟨_, rfl, by rw [HZ.out]; exact own_empty (Nat.le_refl _), below_box _⟩
    · obtain rfl : m = 0 := by omega
      clear hz
      go_enter Try.func30, Try.ntmps30
      go_wp2
      go_ret
      exact ⟨_, rfl, by rw [HZ.out]; exact own_empty (Nat.le_refl _), below_box _⟩
  · have hn0 : 0 < n := by omega
    have hm0 : 0 < m := by omega
    have hn1 : ((n : Int) == 0) = false := by simp; omega
    have hm1 : ((m : Int) == 0) = false := by simp; omega
    have HZ := Lib.hid (show mulL f g = trimL (prodP f g n) by unfold mulL; rw [if_neg (by rw [HN.out, HM.out]; exact hz), HN.out])
    clear hz
    go_enter Try.func30, Try.ntmps30
    go_wp2_with (at_make; refine make_ints _ rfl _ _ rfl (n + m - 1) rfl rfl (by omega) (by omega) (by omega) ?_)
    intro w1 ho hb1 hs1
    have HO := Lib.hid (show Own w1 w.heap.size (.slice (some ⟨w.heap.size, 0, none⟩) (n + m - 1) (n + m - 1)) (prodP f g 0) by rw [prodP, HN.out, HM.out]; exact ho)
    have HB := Lib.hid hb1
    clear ho hb1
    go_wp2
    go_loopw [6] (fun c wr => ∃ i : Nat, c = .int .i64 (i : Int) ∧ i ≤ n ∧ Own wr w.heap.size (.slice (some ⟨w.heap.size, 0, none⟩) (n + m - 1) (n + m - 1)) (prodP f g i) ∧ Below w.heap.size w wr) (fun c _ => n - (intOf c).toNat)
    case atStart => exact ⟨0, rfl, by omega, HO.out, HB.out⟩
    case round =>
      clear HO HB
      obtain ⟨i, rfl, hi, ho, hbel⟩ := hrel
      have HO := Lib.hid ho
      have HB := Lib.hid hbel
      clear ho hbel
      have HR1 := Lib.hid (HR.out.step HB.out)
      by_cases hlt : i < n
      · obtain ⟨b1, o1, rfl, hc1⟩ := HR1.out.at (k := i) (by rw [HN.out]; exact hlt)
        go_wp2
        go_loopw [7] (fun c wr => ∃ k : Nat, c = .int .i64 (k : Int) ∧ k ≤ m ∧ Own wr w.heap.size (.slice (some ⟨w.heap.size, 0, none⟩) (n + m - 1) (n + m - 1)) (rowP f g i (prodP f g i) k) ∧ Below w.heap.size w wr) (fun c _ => m - (intOf c).toNat)
        case atStart => exact ⟨0, rfl, by omega, HO.out, HB.out⟩
        case round =>
          clear HO HB HR1 hc1
          obtain ⟨k, rfl, hk, ho, hbel⟩ := hrel
          have HO := Lib.hid ho
          have HB := Lib.hid hbel
          clear ho hbel
          have HS1 := Lib.hid (HS.out.step HB.out)
          by_cases hlt2 : k < m
          · obtain ⟨b2, o2, rfl, hc2⟩ := HS1.out.at (k := k) (by rw [HM.out]; exact hlt2)
            obtain ⟨b1', o1', e1, hc1⟩ := (HR.out.step HB.out).at (k := i) (by rw [HN.out]; exact hlt)
            injection e1 with e1
            injection e1 with e1 e2 _
            subst e1 e2
            have y1 := (HR.out.step HB.out).lt (by rw [HN.out]; omega)
            have y2 := HS1.out.lt (by rw [HM.out]; omega)
            have y3 := (HO.out.lt w.heap.size rfl).2
            have f2 := HO.out.cellAt (i := i + k) (prod_cells (by rw [HN.out]; exact hlt) (by rw [HM.out]; exact hlt2))
            have f3 := HO.out.frozenAt (i + k)
            obtain ⟨⟨q1, q2⟩, q3, q4⟩ := prod_step HF.out HG.out ha hb (by rw [HN.out]; exact l1) (by rw [HM.out]; exact l2) (i := i) (by rw [HN.out]; exact hlt) (k := k) (by rw [HM.out]; exact hlt2)
            go_wp2_with (first | (refine wp_region_wext_tail 21 (by kernel_rfl) (by kernel_rfl) ?_; simp only [List.take_succ_cons, List.take_zero, List.drop_succ_cons, List.drop_zero]; (repeat (go_big_quiet_step (first | fail))); refine wpQuiet_nil ?_; intro w1_hbq hbq; replace hbq := below_of_wext hbq; obtain ⟨chbq, fhbq, shbq⟩ := bfacts2 hbq; (try simp at shbq)) | (refine wp_region_wext (by kernel_rfl) (by kernel_rfl) ?_; (repeat (go_big_quiet_step (first | fail))); refine wpQuiet_nil ?_; intro w1_hbq hbq; replace hbq := below_of_wext hbq; obtain ⟨chbq, fhbq, shbq⟩ := bfacts2 hbq; (try simp at shbq)))
            obtain ⟨g1, g2⟩ := (HO.out.step hbq).stored (i + k) (el (rowP f g i (prodP f g i) k) (i + k) + el f i * el g k)
            go_roundw
            case rel => exact ⟨k + 1, by go_num, by omega, g1, (HB.out.trans (hbq.mono HB.out.size)).setCell (Nat.le_refl _) _⟩
            case measure => simp [intOf]; omega
          · obtain rfl : k = m := by omega
            go_wp2
            go_roundw
            case rel => exact ⟨i + 1, by go_num, by omega, by rw [prodP, HM.out]; exact HO.out, HB.out⟩
            case measure => simp [intOf]; omega
      · obtain rfl : i = n := by omega
        go_wp2_with (go_at_call 39; with_reducible refine (l06Trim_any HO.out.reads).mono ?_)
        rintro _ w2 ⟨v1, rfl, o1, b1⟩
        go_wp2
        go_ret
        exact ⟨v1, rfl, by rw [HZ.out]; exact o1.mono HB.out.size, HB.out.trans (b1.mono HB.out.size)⟩

/-! ### by a prime -/
theorem mul_len {f g : List Int} : (mulL f g).length ≤ f.length + g.length - 1 := by
  unfold mulL
  split
  · simp
  · have := trimL_le (prodP f g f.length)
    rw [prodP_len] at this
    exact this
/-- The product by a prime. -/
def timL (p : Int) (f g : List Int) : List Int := redL p (mulL f g)
theorem timL_len (p : Int) (f g : List Int) : (timL p f g).length ≤ f.length + g.length - 1 := Nat.le_trans (redL_len p _) mul_len
theorem timL_in {p : Int} (hp : 1 ≤ p) (f g : List Int) : In p (timL p f g) := redL_in hp _
set_option maxHeartbeats 1000000 in
theorem times_any {p : Int} {v u : Value} {f g : List Int} {w : World} (h : Reads w v f) (h' : Reads w u g) (hf : In p f) (hg : In p g) (hp : 2 ≤ p ∧ p ≤ 97) (l1 : f.length ≤ 1000) (l2 : g.length ≤ 1000) :
    Calls Try.prog 25 #[.int .i64 p, v, u] w (RetInts (timL p f g) w) := by
  have HR := Lib.hid h
  have HS := Lib.hid h'
  have HF := Lib.hid (hf.bd (by omega))
  have HG := Lib.hid (hg.bd (by omega))
  have hl : (mulL f g).length ≤ 100000 := by have := @mul_len f g; omega
  clear h h' hf hg
  go_enter Try.func25, Try.ntmps25
  go_wp2_with (go_at_call 37; with_reducible refine (productOf_any HR.out HS.out HF.out HG.out ⟨by omega, by omega⟩ ⟨by omega, by omega⟩ l1 l2).mono ?_)
  rintro _ w1 ⟨v1, rfl, o1, b1⟩
  have HO := Lib.hid o1
  have HB := Lib.hid b1
  clear o1 b1
  go_wp2_with (go_at_call 36; with_reducible refine (reduce_any HO.out.reads ⟨by omega, by omega⟩ hl).mono ?_)
  rintro _ w2 ⟨v2, rfl, o2, b2⟩
  go_wp2
  go_ret
  exact ⟨v2, rfl, o2.mono HB.out.size, HB.out.trans (b2.mono HB.out.size)⟩
set_option maxHeartbeats 1000000 in
theorem l08Multiply_any {p : Int} {v u : Value} {f g : List Int} {w : World} (h : Reads w v f) (h' : Reads w u g) (hf : In p f) (hg : In p g) (hp : 2 ≤ p ∧ p ≤ 97) (l1 : f.length ≤ 1000) (l2 : g.length ≤ 1000) :
    Calls Try.prog 17 #[.int .i64 p, v, u] w (RetInts (timL p f g) w) := by
  have HR := Lib.hid h
  have HS := Lib.hid h'
  have HF := Lib.hid (hf.bd (by omega))
  have HG := Lib.hid (hg.bd (by omega))
  have hl : (mulL f g).length ≤ 100000 := by have := @mul_len f g; omega
  clear h h' hf hg
  go_enter Try.func17, Try.ntmps17
  go_wp2_with (go_at_call 30; with_reducible refine (l06Multiply_any HR.out HS.out HF.out HG.out ⟨by omega, by omega⟩ ⟨by omega, by omega⟩ l1 l2).mono ?_)
  rintro _ w1 ⟨v1, rfl, o1, b1⟩
  have HO := Lib.hid o1
  have HB := Lib.hid b1
  clear o1 b1
  go_wp2_with (go_at_call 29; with_reducible refine (l08Reduce_any HO.out.reads ⟨by omega, by omega⟩ hl).mono ?_)
  rintro _ w2 ⟨v2, rfl, o2, b2⟩
  go_wp2
  go_ret
  exact ⟨v2, rfl, o2.mono HB.out.size, HB.out.trans (b2.mono HB.out.size)⟩

end Go.Proofs.Ytelpnpfmedlklaa
