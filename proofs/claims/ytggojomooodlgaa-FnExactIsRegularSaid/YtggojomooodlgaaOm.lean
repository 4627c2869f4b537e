/- Contracts: common divisors, derivatives, powers by a polynomial. -/
import Derived.Test.YtggojomooodlgaaOl
namespace Go.Proofs.Ytggojomooodlgaa
open Go.RowKit
set_option linter.unusedVariables false
set_option linter.unusedSimpArgs false

/-- How many elements a slice has. -/
def lenV : Value → Nat
  | .slice _ n _ => n
  | _ => 0
structure ComInv (p : Int) (f0 g0 F G : List Int) : Prop where
  goal : ∃ n, G.length < n ∧ comG p n F G = comG p (g0.length + 1) f0 g0
  inF : In p F
  inG : In p G
  lenF : F.length ≤ 900
  lenG : G.length ≤ 900
  tidy : Tidy G
theorem com_start {p : Int} {f g : List Int} (hf : In p f) (hg : In p g) (l1 : f.length ≤ 900) (l2 : g.length ≤ 900) (ht : Tidy g) : ComInv p f g f g := ⟨⟨g.length + 1, by omega, rfl⟩, hf, hg, l1, l2, ht⟩
theorem com_step {p : Int} {f g F G : List Int} (h : ComInv p f g F G) (hs : smallB p = true) (h0 : 0 < G.length) : ComInv p f g G (remR p F G) ∧ (remR p F G).length < G.length := by
  have hp := small_bd hs
  have hlt := rem_lt (f := F) hs h.inG h0 h.tidy
  obtain ⟨n, hn, hg⟩ := h.goal
  obtain ⟨k, rfl⟩ : ∃ k, n = k + 1 := ⟨n - 1, by omega⟩
  rw [comG, if_neg (by omega)] at hg
  exact ⟨⟨⟨k, by omega, hg⟩, h.inG, remR_in G (by omega) h.inF, h.lenG, by have := h.lenG; omega, remR_tidy p F G⟩, hlt⟩
theorem com_end {p : Int} {f g F G : List Int} (h : ComInv p f g F G) (h0 : G.length = 0) : comL p f g = monL p F := by
  obtain ⟨n, hn, hg⟩ := h.goal
  obtain ⟨k, rfl⟩ : ∃ k, n = k + 1 := ⟨n - 1, by omega⟩
  rw [comG, if_pos h0] at hg
  rw [comL, ← hg]

set_option maxHeartbeats 2000000 in
theorem common_any {p : Int} {v u : Value} {f g : List Int} {w : World} (h : Reads w v f) (h' : Reads w u g) (hf : In p f) (hg : In p g) (hs : smallB p = true) (l1 : f.length ≤ 900) (l2 : g.length ≤ 900) (ht : Tidy g) :
    Calls Try.prog 38 #[.int .i64 p, v, u] w (RetInts (comL p f g) w) := by
  have HA := Lib.hid h
  have HB := Lib.hid h'
  have HS := Lib.hid hs
  have HI := Lib.hid (com_start hf hg l1 l2 ht)
  clear h h' hs hf hg ht
  go_enter Try.func38, Try.ntmps38
  go_wp2
  go_loopw [1, 2] (fun a b wr => ∃ F G : List Int, Hid (ComInv p f g F G) ∧ Reads wr a F ∧ Reads wr b G ∧ Below w.heap.size w wr) (fun _ b _ => lenV b)
  case atStart => exact ⟨f, g, HI, HA.out, HB.out, Below.refl _ _⟩
  case round =>
    clear HI HA HB
    obtain ⟨F, G, HI, hF, hG, hbel⟩ := hrel
    obtain ⟨a2, c2, e2, k3, k4⟩ := reads_nil_eq hG
    subst e2
    obtain ⟨n, hn⟩ : ∃ n, G.length = n := ⟨_, rfl⟩
    rw [hn] at hG k3
    rw [hn]
    have HF := Lib.hid hF
    have HG := Lib.hid hG
    have HW := Lib.hid hbel
    have HN := Lib.hid hn
    clear hF hG hbel hn k4
    have lF := HI.out.lenF
    have lG := HI.out.lenG
    by_cases h0 : 0 < n
    · obtain ⟨hs1, hs2⟩ := com_step HI.out HS.out (by rw [HN.out]; exact h0)
      have HI2 := Lib.hid hs1
      have HL2 := Lib.hid hs2
      clear hs1 hs2
      go_wp2_with (go_at_call 53; with_reducible refine (divide_any HF.out HG.out HI.out.inF HI.out.inG HS.out (by omega) (by omega) (by rw [HN.out]; exact h0)).mono ?_)
      rintro _ w3 ⟨v2, v3, w2, rfl, o2, hb2, o3, hb3⟩
      have HB3 := Lib.hid (hb2.trans (hb3.mono hb2.size))
      go_wp2
      go_roundw
      case rel => exact ⟨G, remR p F G, HI2, by rw [← HN.out]; exact (HN.out ▸ HG.out : Reads wr (.slice a2 G.length c2) G).step HB3.out, o3.reads, HW.out.trans (HB3.out.mono HW.out.size)⟩
      case measure =>
        obtain ⟨a3, c3, rfl, _, _⟩ := reads_nil_eq o3.reads
        show (remR p F G).length < n
        have := HL2.out
        rw [HN.out] at this
        exact this
    · obtain rfl : n = 0 := by omega
      have HE := Lib.hid (com_end HI.out HN.out)
      go_wp2_with (go_at_call 54; with_reducible refine (monic_any HF.out HI.out.inF HS.out lF).mono ?_)
      rintro _ w2 ⟨v2, rfl, o2, hb2⟩
      go_wp2
      go_ret
      exact ⟨v2, rfl, by rw [HE.out]; exact o2.mono HW.out.size, HW.out.trans (hb2.mono HW.out.size)⟩

set_option maxHeartbeats 2000000 in
theorem l08Common_any {p : Int} {v u : Value} {f g : List Int} {w : World} (h : Reads w v f) (h' : Reads w u g) (hf : In p f) (hg : In p g) (hs : smallB p = true) (l1 : f.length ≤ 900) (l2 : g.length ≤ 900) (ht : Tidy g) :
    Calls Try.prog 51 #[.int .i64 p, v, u] w (RetInts (comL p f g) w) := by
  have HA := Lib.hid h
  have HB := Lib.hid h'
  have HS := Lib.hid hs
  have HI := Lib.hid (com_start hf hg l1 l2 ht)
  clear h h' hs hf hg ht
  go_enter Try.func51, Try.ntmps51
  go_wp2
  go_loopw [1, 2] (fun a b wr => ∃ F G : List Int, Hid (ComInv p f g F G) ∧ Reads wr a F ∧ Reads wr b G ∧ Below w.heap.size w wr) (fun _ b _ => lenV b)
  case atStart => exact ⟨f, g, HI, HA.out, HB.out, Below.refl _ _⟩
  case round =>
    clear HI HA HB
    obtain ⟨F, G, HI, hF, hG, hbel⟩ := hrel
    obtain ⟨a2, c2, e2, k3, k4⟩ := reads_nil_eq hG
    subst e2
    obtain ⟨n, hn⟩ : ∃ n, G.length = n := ⟨_, rfl⟩
    rw [hn] at hG k3
    rw [hn]
    have HF := Lib.hid hF
    have HG := Lib.hid hG
    have HW := Lib.hid hbel
    have HN := Lib.hid hn
    clear hF hG hbel hn k4
    have lF := HI.out.lenF
    have lG := HI.out.lenG
    by_cases h0 : 0 < n
    · obtain ⟨hs1, hs2⟩ := com_step HI.out HS.out (by rw [HN.out]; exact h0)
      have HI2 := Lib.hid hs1
      have HL2 := Lib.hid hs2
      clear hs1 hs2
      go_wp2_with (go_at_call 57; with_reducible refine (l08Divide_any HF.out HG.out HI.out.inF HI.out.inG HS.out (by omega) (by omega) (by rw [HN.out]; exact h0)).mono ?_)
      rintro _ w3 ⟨v2, v3, w2, rfl, o2, hb2, o3, hb3⟩
      have HB3 := Lib.hid (hb2.trans (hb3.mono hb2.size))
      go_wp2
      go_roundw
      case rel => exact ⟨G, remR p F G, HI2, by rw [← HN.out]; exact (HN.out ▸ HG.out : Reads wr (.slice a2 G.length c2) G).step HB3.out, o3.reads, HW.out.trans (HB3.out.mono HW.out.size)⟩
      case measure =>
        obtain ⟨a3, c3, rfl, _, _⟩ := reads_nil_eq o3.reads
        show (remR p F G).length < n
        have := HL2.out
        rw [HN.out] at this
        exact this
    · obtain rfl : n = 0 := by omega
      have HE := Lib.hid (com_end HI.out HN.out)
      go_wp2_with (go_at_call 58; with_reducible refine (l08Monic_any HF.out HI.out.inF HS.out lF).mono ?_)
      rintro _ w2 ⟨v2, rfl, o2, hb2⟩
      go_wp2
      go_ret
      exact ⟨v2, rfl, by rw [HE.out]; exact o2.mono HW.out.size, HW.out.trans (hb2.mono HW.out.size)⟩

/-! ### derivatives -/
def derL (f : List Int) : List Int := (List.range (f.length - 1)).map (fun i : Nat => ((i : Int) + 1) * el f (i + 1))
theorem derL_len (f : List Int) : (derL f).length = f.length - 1 := by simp [derL]
theorem derL_el {f : List Int} {k : Nat} (h : k + 1 < f.length) : el (derL f) k = ((k : Int) + 1) * el f (k + 1) := by
  simp only [derL, el, List.getD_eq_getElem?_getD, List.getElem?_map, List.getElem?_range (show k < f.length - 1 by omega)]
  rfl
theorem derL_next {f : List Int} {k : Nat} (h : k + 1 < f.length) : (derL f).take k ++ [((k : Int) + 1) * el f (k + 1)] = (derL f).take (k + 1) := by
  rw [← derL_el h, take_next (by rw [derL_len]; omega)]

set_option maxHeartbeats 1000000 in
theorem derivative_any {b : Int} {v : Value} {f : List Int} {w : World} (h : Reads w v f) (hf : Bd b f) (hb : 0 ≤ b ∧ b ≤ 1000000) (hl : f.length ≤ 900) :
    Calls Try.prog 40 #[v] w (RetInts (derL f) w) := by
  obtain ⟨a, cap, rfl, h1, h2⟩ := reads_nil_eq h
  obtain ⟨n, hn⟩ : ∃ n, f.length = n := ⟨_, rfl⟩
  rw [hn] at h h1 hl ⊢
  have HN := Lib.hid hn
  have HR := Lib.hid h
  have HF := Lib.hid hf
  clear h h2 hn hf
  go_enter Try.func40, Try.ntmps40
  go_wp2
  go_loopw [3, 4] (fun l c wr => ∃ k : Nat, c = .int .i64 ((k : Int) + 1) ∧ (k + 1 ≤ n ∨ (n = 0 ∧ k = 0)) ∧ Own wr w.heap.size l ((derL f).take k) ∧ Below w.heap.size w wr) (fun _ c _ => n + 1 - (intOf c).toNat)
  case atStart => exact ⟨0, rfl, by omega, Own.nil, Below.refl _ _⟩
  case round =>
    obtain ⟨k, rfl, hk, hown, hbel⟩ := hrel
    have HO := Lib.hid hown
    have HW := Lib.hid hbel
    clear hown hbel
    have HR1 := Lib.hid (HR.out.step HW.out)
    by_cases hlt : k + 1 < n
    · obtain ⟨b1, o1, rfl, hc⟩ := HR1.out.at (k := k + 1) (by rw [HN.out]; exact hlt)
      have hbd := HF.out (k + 1)
      have hm := abs_mul_le (x := (k : Int) + 1) (y := el f (k + 1)) (a := 1000) (b := 1000000) (by omega) (by omega)
      have hL : ((derL f).take k).length + 1 ≤ 1099511627776 := by rw [List.length_take]; omega
      go_wp2_with (at_builtin; refine append_one _ rfl _ _ rfl rfl HO.out hL HW.out.size rfl ?_)
      intro vv w1 hown1 hbel1
      rw [derL_next (by rw [HN.out]; exact hlt)] at hown1
      have HO1 := Lib.hid hown1
      have HW1 := Lib.hid (HW.out.trans hbel1)
      clear hown1 hbel1
      go_wp2
      go_roundw
      case rel => exact ⟨k + 1, by go_num, by omega, HO1.out, HW1.out⟩
      case measure => simp [intOf]; omega
    · have HE := Lib.hid (show (derL f).take k = derL f from List.take_of_length_le (by rw [derL_len, HN.out]; omega))
      go_wp2
      go_ret
      exact ⟨_, rfl, by have := HO.out; rw [HE.out] at this; exact this, HW.out⟩

set_option maxHeartbeats 1000000 in
theorem l06Derivative_any {b : Int} {v : Value} {f : List Int} {w : World} (h : Reads w v f) (hf : Bd b f) (hb : 0 ≤ b ∧ b ≤ 1000000) (hl : f.length ≤ 900) :
    Calls Try.prog 60 #[v] w (RetInts (derL f) w) := by
  obtain ⟨a, cap, rfl, h1, h2⟩ := reads_nil_eq h
  obtain ⟨n, hn⟩ : ∃ n, f.length = n := ⟨_, rfl⟩
  rw [hn] at h h1 hl ⊢
  have HN := Lib.hid hn
  have HR := Lib.hid h
  have HF := Lib.hid hf
  clear h h2 hn hf
  go_enter Try.func60, Try.ntmps60
  go_wp2
  go_loopw [3, 4] (fun l c wr => ∃ k : Nat, c = .int .i64 ((k : Int) + 1) ∧ (k + 1 ≤ n ∨ (n = 0 ∧ k = 0)) ∧ Own wr w.heap.size l ((derL f).take k) ∧ Below w.heap.size w wr) (fun _ c _ => n + 1 - (intOf c).toNat)
  case atStart => exact ⟨0, rfl, by omega, own_empty (Nat.le_refl _), below_box _⟩
  case round =>
    obtain ⟨k, rfl, hk, hown, hbel⟩ := hrel
    have HO := Lib.hid hown
    have HW := Lib.hid hbel
    clear hown hbel
    have HR1 := Lib.hid (HR.out.step HW.out)
    by_cases hlt : k + 1 < n
    · obtain ⟨b1, o1, rfl, hc⟩ := HR1.out.at (k := k + 1) (by rw [HN.out]; exact hlt)
      have hbd := HF.out (k + 1)
      have hm := abs_mul_le (x := (k : Int) + 1) (y := el f (k + 1)) (a := 1000) (b := 1000000) (by omega) (by omega)
      have hL : ((derL f).take k).length + 1 ≤ 1099511627776 := by rw [List.length_take]; omega
      go_wp2_with (at_builtin; refine append_one _ rfl _ _ rfl rfl HO.out hL HW.out.size rfl ?_)
      intro vv w1 hown1 hbel1
      rw [derL_next (by rw [HN.out]; exact hlt)] at hown1
      have HO1 := Lib.hid hown1
      have HW1 := Lib.hid (HW.out.trans hbel1)
      clear hown1 hbel1
      go_wp2
      go_roundw
      case rel => exact ⟨k + 1, by go_num, by omega, HO1.out, HW1.out⟩
      case measure => simp [intOf]; omega
    · have HE := Lib.hid (show (derL f).take k = derL f from List.take_of_length_le (by rw [derL_len, HN.out]; omega))
      go_wp2
      go_ret
      exact ⟨_, rfl, by have := HO.out; rw [HE.out] at this; exact this, HW.out⟩

theorem derL_in {p : Int} {f : List Int} (hp : p ≤ 97) (h : In p f) : Bd 97 f := (h.bd (by omega)).mono hp
/-- The derivative by a prime. -/
def derP (p : Int) (f : List Int) : List Int := redL p (derL f)

def pwF (p : Int) (f : List Int) : Nat → List Int → List Int → Int → List Int
  | 0, o, _, _ => o
  | n + 1, o, b, e => if e ≤ 0 then o else pwF p f n (if e % 2 = 1 then remR p (timL p o b) f else o) (remR p (timL p b b) f) (e / 2)
def powL (p : Int) (b : List Int) (e : Int) (f : List Int) : List Int := pwF p f (e.toNat + 1) (remR p [1] f) (remR p b f) e
structure PwInv (p : Int) (f : List Int) (T : List Int) (o b : List Int) (e : Int) : Prop where
  goal : ∃ n : Nat, e.toNat < n ∧ pwF p f n o b e = T
  ino : In p o
  inb : In p b
  leno : o.length ≤ 400
  lenb : b.length ≤ 400
theorem rem_short {p : Int} {f g : List Int} (hs : smallB p = true) (hg : In p g) (hl : 0 < g.length) (hl2 : g.length ≤ 9) (ht : Tidy g) : (remR p f g).length ≤ 8 := by
  have := rem_lt (f := f) hs hg hl ht; omega
theorem pwl_start {p : Int} {f b : List Int} {e : Int} (hs : smallB p = true) (hf : In p f) (hl : 0 < f.length) (hl2 : f.length ≤ 9) (ht : Tidy f) (hb : In p b) : PwInv p f (powL p b e f) (remR p [1] f) (remR p b f) e := by
  have hp := small_bd hs
  refine ⟨⟨e.toNat + 1, by omega, rfl⟩, remR_in f (by omega) (in_one (by omega)), remR_in f (by omega) hb, ?_, ?_⟩
  · have := rem_short (f := [1]) hs hf hl hl2 ht; omega
  · have := rem_short (f := b) hs hf hl hl2 ht; omega
theorem pwl_odd {p : Int} {f T o b : List Int} {e : Int} (h : PwInv p f T o b e) (hs : smallB p = true) (hf : In p f) (hl : 0 < f.length) (hl2 : f.length ≤ 9) (ht : Tidy f) (he : 0 < e) (h1 : e % 2 = 1) : PwInv p f T (remR p (timL p o b) f) (remR p (timL p b b) f) (e / 2) := by
  have hp := small_bd hs
  obtain ⟨n, hn, hg⟩ := h.goal
  obtain ⟨k, rfl⟩ : ∃ k, n = k + 1 := ⟨n - 1, by omega⟩
  rw [pwF, if_neg (by omega), if_pos h1] at hg
  refine ⟨⟨k, by omega, hg⟩, remR_in f (by omega) (timL_in (by omega) _ _), remR_in f (by omega) (timL_in (by omega) _ _), ?_, ?_⟩
  · have := rem_short (f := timL p o b) hs hf hl hl2 ht; omega
  · have := rem_short (f := timL p b b) hs hf hl hl2 ht; omega
theorem pwl_even {p : Int} {f T o b : List Int} {e : Int} (h : PwInv p f T o b e) (hs : smallB p = true) (hf : In p f) (hl : 0 < f.length) (hl2 : f.length ≤ 9) (ht : Tidy f) (he : 0 < e) (h1 : e % 2 = 0) : PwInv p f T o (remR p (timL p b b) f) (e / 2) := by
  have hp := small_bd hs
  obtain ⟨n, hn, hg⟩ := h.goal
  obtain ⟨k, rfl⟩ : ∃ k, n = k + 1 := ⟨n - 1, by omega⟩
  rw [pwF, if_neg (by omega), if_neg (by omega)] at hg
  refine ⟨⟨k, by omega, hg⟩, h.ino, remR_in f (by omega) (timL_in (by omega) _ _), h.leno, ?_⟩
  have := rem_short (f := timL p b b) hs hf hl hl2 ht; omega
theorem pwl_end {p : Int} {f T o b : List Int} {e : Int} (h : PwInv p f T o b e) (he : e ≤ 0) : T = o := by
  obtain ⟨n, hn, hg⟩ := h.goal
  obtain ⟨k, rfl⟩ : ∃ k, n = k + 1 := ⟨n - 1, by omega⟩
  rw [pwF, if_pos he] at hg
  exact hg.symm

end Go.Proofs.Ytggojomooodlgaa
