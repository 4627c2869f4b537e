/- Contracts: slopes, both. -/
import Derived.Test.YtggojomooodlgaaKf
import Derived.Test.YtggojomooodlgaaEb
namespace Go.Proofs.Ytggojomooodlgaa
open Go.RowKit
set_option linter.unusedVariables false
set_option linter.unusedSimpArgs false

theorem bd_mul {d x b : Int} (hd : 1 ≤ d) (h : -b ≤ x * d ∧ x * d ≤ b) : -b ≤ x ∧ x ≤ b := by
  by_cases h0 : 0 ≤ x
  · have := Int.mul_le_mul_of_nonneg_left hd h0
    omega
  · have := Int.mul_le_mul_of_nonpos_left (show x ≤ 0 by omega) hd
    omega

set_option maxHeartbeats 8000000 in
set_option maxRecDepth 100000 in
theorem slopes_any {p : Int} {v : Value} {f : List Int} {w : World} (h : Reads w v f) (hp : 2 ≤ p ∧ p ≤ 97) (hf : Bd 1000000 f) (hl : f.length ≤ 9) :
    Calls Try.prog 20 #[.int .i64 p, v] w (RetS (sloA p f) w) := by
  have HR := Lib.hid h
  obtain ⟨hok, hri, hln⟩ := polA_ok p f
  have HPG := Lib.hid (fun (v : Value) (w : World) (hR : Reads w v f) => polygon_any hR hp hf hl)
  have hsl : sloA p f = sloL (polA p f) ((polA p f).length - 1) := rfl
  rw [hsl]
  have hbd : ∀ i, i < (polA p f).length → 0 ≤ (ptG (polA p f) i).1 ∧ (ptG (polA p f) i).1 ≤ 9 ∧ 0 ≤ (ptG (polA p f) i).2 ∧ (ptG (polA p f) i).2 ≤ 1000000 := fun i hi => by
    have h1 := hok _ (ptG_mem (P := polA p f) hi)
    have h2 := h1.bd hp.1 hf
    exact ⟨h1.1, by have := h1.2.1; omega, h2.1, h2.2.1⟩
  have hrise : ∀ i, i + 1 < (polA p f).length → (ptG (polA p f) i).1 < (ptG (polA p f) (i + 1)).1 := fun i hi => ptG_rise hri (by omega) hi
  clear h hf hsl hok hri
  obtain ⟨C, hC⟩ : ∃ C, polA p f = C := ⟨_, rfl⟩
  rw [hC] at hln HPG hbd hrise ⊢
  obtain ⟨m, hm⟩ : ∃ m, C.length = m := ⟨_, rfl⟩
  rw [hm] at hln hbd hrise ⊢
  have HM := Lib.hid hm
  have HBD := Lib.hid hbd
  have HRI := Lib.hid hrise
  clear hC hm hbd hrise
  go_enter Try.func20, Try.ntmps20
  go_wp2_with (go_at_call 32; with_reducible refine (HPG.out _ _ HR.out).mono ?_)
  rintro _ w1 ⟨v1, rfl, o1, hb1⟩
  obtain ⟨a1, c1, rfl, k1, k2⟩ := OwnC.open o1
  rw [HM.out] at o1 k1 k2 ⊢
  have HO1 := Lib.hid o1
  have HK2 := Lib.hid k2
  have HB1 := Lib.hid hb1
  have hs1 := hb1.size
  clear o1 k2 hb1
  go_wp2
  go_loopw [6, 7] (fun l c wr => ∃ k : Nat, c = .int .i64 ((k + 1 : Nat) : Int) ∧ k ≤ m - 1 ∧ OwnS wr w1.heap.size l (sloL C k) ∧ Below w1.heap.size w1 wr) (fun _ c _ => m - (intOf c).toNat)
  case atStart => exact ⟨0, rfl, by omega, RowOwn.nil, Below.refl _ _⟩
  case round =>
    obtain ⟨k, rfl, hk, hown, hbel⟩ := hrel
    have HW := Lib.hid hbel
    have hsw := hbel.size
    have HO := Lib.hid hown
    have HOP := Lib.hid (HO1.out.step hbel)
    clear hbel hown
    obtain ⟨kk, hkk⟩ : ∃ kk, k + 1 = kk := ⟨_, rfl⟩
    by_cases hlt : kk < m
    · have hnx : sloL C (k + 1) = sloL C k ++ [slpV (ptG C k) (ptG C kk)] := by rw [← hkk]; rfl
      have hri := HRI.out k (by omega)
      obtain ⟨g, rfl, hg1, hg2⟩ := HK2.out kk hlt
      obtain ⟨e1, e2⟩ := HOP.out.at (i := k) (by rw [HM.out]; omega)
      obtain ⟨e3, e4⟩ := HOP.out.at (i := kk) (by rw [HM.out]; omega)
      obtain ⟨u1, u2, u3, u4⟩ := HBD.out k (by omega)
      obtain ⟨v1, v2, v3, v4⟩ := HBD.out kk (by omega)
      rw [hkk] at hnx hri ⊢
      generalize ptG C k = A at *
      generalize ptG C kk = B at *
      obtain ⟨Ax, Ay⟩ := A
      obtain ⟨Bx, By⟩ := B
      obtain ⟨s1, s2, s3, s4, s5, s6, s7⟩ := slp_facts hri
      simp only at e1 e2 e3 e4 u1 u2 u3 u4 v1 v2 v3 v4 s1 s2 s3 s4 s5 s6 s7 hri
      have hs3 : (slpV (Ax, Ay) (Bx, By)).2.2 = Bx - Ax := rfl
      obtain ⟨d, hd⟩ : ∃ d : Int, (Int.gcd (By - Ay) (Bx - Ax) : Int) = d := ⟨_, rfl⟩
      obtain ⟨⟨r1, r2, r3⟩, hr⟩ : ∃ r, slpV (Ax, Ay) (Bx, By) = r := ⟨_, rfl⟩
      rw [hr] at hnx hs3 s3 s4 s5 s6 s7
      rw [hd] at s1 s2 s3 s4 s6 s7
      simp only at hs3 s3 s4 s5 s6 s7
      have t1 := bd_mul s1 (b := 1000000) (x := r1) ⟨by omega, by omega⟩
      have t2 := bd_mul s1 (b := 1000000) (x := r2) ⟨by omega, by omega⟩
      have W5 : IntKind.i64.wrap r1 = r1 := IntWalk.i64_in _ (by omega)
      have W6 : IntKind.i64.wrap r2 = r2 := IntWalk.i64_in _ (by omega)
      clear s3 s4
      subst hs3
      have HD := Lib.hid hd
      have HX := Lib.hid hnx
      have hL : (sloL C k).length ≤ 1000000 := by rw [sloL_len]; omega
      have W1 : IntKind.i64.wrap ((kk : Int) - 1) = (k : Int) := by rw [IntWalk.i64_in _ (by omega)]; omega
      have W2 : IntKind.i64.wrap (By - Ay) = By - Ay := IntWalk.i64_in _ (by omega)
      have W3 : IntKind.i64.wrap (Bx - Ax) = Bx - Ax := IntWalk.i64_in _ (by omega)
      have J1 : (0 : Int) ≤ (k : Int) := by omega
      have J2 : (k : Int) < (m : Int) := by omega
      have J3 : (0 : Int) ≤ (kk : Int) := by omega
      have J4 : (kk : Int) < (m : Int) := by omega
      have J5 : k < m := by omega
      have HKK := Lib.hid hkk
      have hgb : g < wr.heap.size := by omega
      have hd0 : ¬ d = 0 := by omega
      clear hkk hd hnx hr
      go_wp2
      go_region_held3 (fun w' => w'.cell? ⟨g, k * 2, none⟩ = some (.int .i64 Ax) ∧ w'.cell? ⟨g, k * 2 + 1, none⟩ = some (.int .i64 Ay) ∧ w'.cell? ⟨g, kk * 2, none⟩ = some (.int .i64 Bx) ∧ w'.cell? ⟨g, kk * 2 + 1, none⟩ = some (.int .i64 By)) (go_keep) (fail)
      go_wp2_with (go_at_call 33; with_reducible refine (calls_int (gcd_any (By - Ay) (Bx - Ax) _ ⟨by omega, by omega⟩ ⟨by omega, by omega⟩) HD.out).mono ?_)
      rintro _ w2 ⟨rfl, hb2⟩
      have hb2' := HW.out.trans ((show Below wr.heap.size wr wr.drew from (Below.refl _ _).drew).mono hsw |>.trans (hb2.mono (by simpa using hsw)))
      have HB2 := Lib.hid hb2'
      have HO2 := Lib.hid (HO.out.step ((show Below wr.heap.size wr wr.drew from (Below.refl _ _).drew).trans (hb2.mono (by simp))))
      have hs2 := hb2'.size
      clear hb2 hb2'
      have hbz : Below w2.heap.size w2 ((w2.alloc (.cells #[.int .i64 r1, .int .i64 r2, .int .i64 (Bx - Ax)] 39)).drew) := ((Below.refl _ _).alloc (Nat.le_refl _) _).drew
      have HO3 := Lib.hid (HO2.out.step hbz)
      have HB3 := Lib.hid (HB2.out.trans (hbz.mono hs2))
      have HC3 := Lib.hid (show ∀ j u, (cS (r1, r2, Bx - Ax))[j]? = some u → ((w2.alloc (.cells #[.int .i64 r1, .int .i64 r2, .int .i64 (Bx - Ax)] 39)).drew).cell? ⟨w2.heap.size, j, none⟩ = some u from fun j u hu => by
        have := cells_new (w := w2) (arr := #[.int .i64 r1, .int .i64 r2, .int .i64 (Bx - Ax)]) (t := 39) j u hu
        simpa [Addr.add_lit] using this)
      have hs3 := HB3.out.size
      clear hbz
      go_wp2
      go_region_held3 (fun w' => True) (trivial) (first | (refine step_append_row infoS Try.underlying34 rfl (by omega) (by omega) cS_len cS_one rfl (.tmp 47) (.tmp 56) (by rfl) (n := (r1, r2, Bx - Ax)) (by simp [Act.eval, Act.put]) HO3.out (by simp [Act.eval, Act.put]) HC3.out hL hs3 ?_; intro v7 w7 o7 g7 b7))
      rw [← HX.out] at o7
      have HO7 := Lib.hid o7
      have HB7 := Lib.hid (HB3.out.trans b7)
      clear o7 g7 b7
      go_wp2
      go_roundw
      case rel => exact ⟨k + 1, by rw [show ((k + 1 + 1 : Nat) : Int) = (kk : Int) + 1 by have := HKK.out; omega], by have := HKK.out; omega, by rw [HKK.out]; exact HO7.out, HB7.out⟩
      case measure => simp [intOf]; omega
    · obtain rfl : k = m - 1 := by omega
      rw [hkk]
      go_wp2
      go_ret
      exact ⟨_, rfl, HO.out.mono hs1, HB1.out.trans (HW.out.mono hs1)⟩
set_option maxHeartbeats 8000000 in
set_option maxRecDepth 100000 in
theorem l13Slopes_any {p : Int} {v : Value} {f : List Int} {w : World} (h : Reads w v f) (hp : 2 ≤ p ∧ p ≤ 97) (hf : Bd 1000000 f) (hl : f.length ≤ 9) (hne : ptA p f ≠ []) :
    Calls Try.prog 15 #[.int .i64 p, v] w (RetS (sloA p f) w) := by
  have HR := Lib.hid h
  obtain ⟨hok, hri, hln⟩ := polA_ok p f
  have HPG := Lib.hid (fun (v : Value) (w : World) (hR : Reads w v f) => l13Polygon_any hR hp hf hl hne)
  have hsl : sloA p f = sloL (polA p f) ((polA p f).length - 1) := rfl
  rw [hsl]
  have hbd : ∀ i, i < (polA p f).length → 0 ≤ (ptG (polA p f) i).1 ∧ (ptG (polA p f) i).1 ≤ 9 ∧ 0 ≤ (ptG (polA p f) i).2 ∧ (ptG (polA p f) i).2 ≤ 1000000 := fun i hi => by
    have h1 := hok _ (ptG_mem (P := polA p f) hi)
    have h2 := h1.bd hp.1 hf
    exact ⟨h1.1, by have := h1.2.1; omega, h2.1, h2.2.1⟩
  have hrise : ∀ i, i + 1 < (polA p f).length → (ptG (polA p f) i).1 < (ptG (polA p f) (i + 1)).1 := fun i hi => ptG_rise hri (by omega) hi
  clear h hf hsl hok hri
  obtain ⟨C, hC⟩ : ∃ C, polA p f = C := ⟨_, rfl⟩
  rw [hC] at hln HPG hbd hrise ⊢
  obtain ⟨m, hm⟩ : ∃ m, C.length = m := ⟨_, rfl⟩
  rw [hm] at hln hbd hrise ⊢
  have HM := Lib.hid hm
  have HBD := Lib.hid hbd
  have HRI := Lib.hid hrise
  clear hC hm hbd hrise
  go_enter Try.func15, Try.ntmps15
  go_wp2_with (go_at_call 26; with_reducible refine (HPG.out _ _ HR.out).mono ?_)
  rintro _ w1 ⟨v1, rfl, o1, hb1⟩
  obtain ⟨a1, c1, rfl, k1, k2⟩ := OwnC.open o1
  rw [HM.out] at o1 k1 k2 ⊢
  have HO1 := Lib.hid o1
  have HK2 := Lib.hid k2
  have HB1 := Lib.hid hb1
  have hs1 := hb1.size
  clear o1 k2 hb1
  go_wp2
  go_loopw [6, 7] (fun l c wr => ∃ k : Nat, c = .int .i64 ((k + 1 : Nat) : Int) ∧ k ≤ m - 1 ∧ OwnS wr w1.heap.size l (sloL C k) ∧ Below w1.heap.size w1 wr) (fun _ c _ => m - (intOf c).toNat)
  case atStart => exact ⟨0, rfl, by omega, RowOwn.empty (Nat.le_refl _), below_box _⟩
  case round =>
    obtain ⟨k, rfl, hk, hown, hbel⟩ := hrel
    have HW := Lib.hid hbel
    have hsw := hbel.size
    have HO := Lib.hid hown
    have HOP := Lib.hid (HO1.out.step hbel)
    clear hbel hown
    obtain ⟨kk, hkk⟩ : ∃ kk, k + 1 = kk := ⟨_, rfl⟩
    by_cases hlt : kk < m
    · have hnx : sloL C (k + 1) = sloL C k ++ [slpV (ptG C k) (ptG C kk)] := by rw [← hkk]; rfl
      have hri := HRI.out k (by omega)
      obtain ⟨g, rfl, hg1, hg2⟩ := HK2.out kk hlt
      obtain ⟨e1, e2⟩ := HOP.out.at (i := k) (by rw [HM.out]; omega)
      obtain ⟨e3, e4⟩ := HOP.out.at (i := kk) (by rw [HM.out]; omega)
      obtain ⟨u1, u2, u3, u4⟩ := HBD.out k (by omega)
      obtain ⟨v1, v2, v3, v4⟩ := HBD.out kk (by omega)
      rw [hkk] at hnx hri ⊢
      generalize ptG C k = A at *
      generalize ptG C kk = B at *
      obtain ⟨Ax, Ay⟩ := A
      obtain ⟨Bx, By⟩ := B
      obtain ⟨s1, s2, s3, s4, s5, s6, s7⟩ := slp_facts hri
      simp only at e1 e2 e3 e4 u1 u2 u3 u4 v1 v2 v3 v4 s1 s2 s3 s4 s5 s6 s7 hri
      have hs3 : (slpV (Ax, Ay) (Bx, By)).2.2 = Bx - Ax := rfl
      obtain ⟨d, hd⟩ : ∃ d : Int, (Int.gcd (By - Ay) (Bx - Ax) : Int) = d := ⟨_, rfl⟩
      obtain ⟨⟨r1, r2, r3⟩, hr⟩ : ∃ r, slpV (Ax, Ay) (Bx, By) = r := ⟨_, rfl⟩
      rw [hr] at hnx hs3 s3 s4 s5 s6 s7
      rw [hd] at s1 s2 s3 s4 s6 s7
      simp only at hs3 s3 s4 s5 s6 s7
      have t1 := bd_mul s1 (b := 1000000) (x := r1) ⟨by omega, by omega⟩
      have t2 := bd_mul s1 (b := 1000000) (x := r2) ⟨by omega, by omega⟩
      have W5 : IntKind.i64.wrap r1 = r1 := IntWalk.i64_in _ (by omega)
      have W6 : IntKind.i64.wrap r2 = r2 := IntWalk.i64_in _ (by omega)
      clear s3 s4
      subst hs3
      have HD := Lib.hid (show (Int.gcd (Bx - Ax) (By - Ay) : Int) = d by rw [Int.gcd_comm]; exact hd)
      have HX := Lib.hid hnx
      have hL : (sloL C k).length ≤ 1000000 := by rw [sloL_len]; omega
      have W1 : IntKind.i64.wrap ((kk : Int) - 1) = (k : Int) := by rw [IntWalk.i64_in _ (by omega)]; omega
      have W2 : IntKind.i64.wrap (By - Ay) = By - Ay := IntWalk.i64_in _ (by omega)
      have W3 : IntKind.i64.wrap (Bx - Ax) = Bx - Ax := IntWalk.i64_in _ (by omega)
      have J1 : (0 : Int) ≤ (k : Int) := by omega
      have J2 : (k : Int) < (m : Int) := by omega
      have J3 : (0 : Int) ≤ (kk : Int) := by omega
      have J4 : (kk : Int) < (m : Int) := by omega
      have J5 : k < m := by omega
      have HKK := Lib.hid hkk
      have hgb : g < wr.heap.size := by omega
      have hd0 : ¬ d = 0 := by omega
      clear hkk hd hnx hr
      go_wp2
      go_region_held3 (fun w' => w'.cell? ⟨g, k * 2, none⟩ = some (.int .i64 Ax) ∧ w'.cell? ⟨g, k * 2 + 1, none⟩ = some (.int .i64 Ay) ∧ w'.cell? ⟨g, kk * 2, none⟩ = some (.int .i64 Bx) ∧ w'.cell? ⟨g, kk * 2 + 1, none⟩ = some (.int .i64 By)) (go_keep) (fail)
      go_wp2_with (go_at_call 27; with_reducible refine (calls_int (l01Gcd_any (Bx - Ax) (By - Ay) _ ⟨by omega, by omega⟩ ⟨by omega, by omega⟩) HD.out).mono ?_)
      rintro _ w2 ⟨rfl, hb2⟩
      have hb2' := HW.out.trans ((show Below wr.heap.size wr wr.drew from (Below.refl _ _).drew).mono hsw |>.trans (hb2.mono (by simpa using hsw)))
      have HB2 := Lib.hid hb2'
      have HO2 := Lib.hid (HO.out.step ((show Below wr.heap.size wr wr.drew from (Below.refl _ _).drew).trans (hb2.mono (by simp))))
      have hs2 := hb2'.size
      clear hb2 hb2'
      have hbz : Below w2.heap.size w2 ((w2.alloc (.cells #[.int .i64 r1, .int .i64 r2, .int .i64 (Bx - Ax)] 39)).drew) := ((Below.refl _ _).alloc (Nat.le_refl _) _).drew
      have HO3 := Lib.hid (HO2.out.step hbz)
      have HB3 := Lib.hid (HB2.out.trans (hbz.mono hs2))
      have HC3 := Lib.hid (show ∀ j u, (cS (r1, r2, Bx - Ax))[j]? = some u → ((w2.alloc (.cells #[.int .i64 r1, .int .i64 r2, .int .i64 (Bx - Ax)] 39)).drew).cell? ⟨w2.heap.size, j, none⟩ = some u from fun j u hu => by
        have := cells_new (w := w2) (arr := #[.int .i64 r1, .int .i64 r2, .int .i64 (Bx - Ax)]) (t := 39) j u hu
        simpa [Addr.add_lit] using this)
      have hs3 := HB3.out.size
      clear hbz
      go_wp2
      go_region_held3 (fun w' => True) (trivial) (first | (refine step_append_row infoS Try.underlying34 rfl (by omega) (by omega) cS_len cS_one rfl (.tmp 48) (.tmp 57) (by rfl) (n := (r1, r2, Bx - Ax)) (by simp [Act.eval, Act.put]) HO3.out (by simp [Act.eval, Act.put]) HC3.out hL hs3 ?_; intro v7 w7 o7 g7 b7))
      rw [← HX.out] at o7
      have HO7 := Lib.hid o7
      have HB7 := Lib.hid (HB3.out.trans b7)
      clear o7 g7 b7
      go_wp2
      go_roundw
      case rel => exact ⟨k + 1, by rw [show ((k + 1 + 1 : Nat) : Int) = (kk : Int) + 1 by have := HKK.out; omega], by have := HKK.out; omega, by rw [HKK.out]; exact HO7.out, HB7.out⟩
      case measure => simp [intOf]; omega
    · obtain rfl : k = m - 1 := by omega
      rw [hkk]
      go_wp2
      go_ret
      exact ⟨_, rfl, HO.out.mono hs1, HB1.out.trans (HW.out.mono hs1)⟩

end Go.Proofs.Ytggojomooodlgaa
