/- Contracts: tests on all factors by a function value; both ProductOf. (Printed by pof.py.) -/
import Derived.Test.YtelpnpfmedlklaaPe
import Derived.Test.YtelpnpfmedlklaaOk
namespace Go.Proofs.Ytelpnpfmedlklaa
open Go.RowKit
set_option linter.unusedVariables false
set_option linter.unusedSimpArgs false

def anyB (P : Nat → Bool) (n : Nat) : Bool := (List.range n).any P
theorem anyB_true {P : Nat → Bool} {n k : Nat} (hk : k < n) (h : P k = true) : anyB P n = true := by
  unfold anyB; rw [List.any_eq_true]; exact ⟨k, List.mem_range.2 hk, h⟩
theorem anyB_false {P : Nat → Bool} {n : Nat} (h : ∀ j, j < n → P j = false) : anyB P n = false := by
  unfold anyB
  rw [List.any_eq_false]
  intro j hj
  rw [h j (List.mem_range.1 hj)]; simp
def facB (p : Int) (z : List Int) (t : Int) : Bool := modlB p z && inB t 1 8
/-- The function value's test: a factor that is none. -/
theorem isBad_any {p t : Int} {u : Value} {z : List Int} {B : Nat} {w : World} (h : Reads w u z) (hc : w.cell? ⟨B, 0, none⟩ = some (.int .i64 p)) (hB : B < w.heap.size) :
    Calls Try.prog 19 #[.agg #[u, .int .i64 t], .pointer (some ⟨B, 0, none⟩)] w fun e w' => e = .returned (.bool (!facB p z t)) ∧ Below w.heap.size w w' := by
  obtain ⟨a, cap, rfl, _, _⟩ := reads_nil_eq h
  have HR := Lib.hid (h.step (below_box (.cells #[.slice a z.length cap, .int .i64 t] 39)))
  have hc2 := ((below_box (w := w) (.cells #[.slice a z.length cap, .int .i64 t] 39)).cell (p := ⟨B, 0, none⟩) hB).trans hc
  clear h
  rcases Bool.eq_false_or_eq_true (modlB p z) with hm | hm
  · have HM := Lib.hid hm
    clear hm
    go_enter Try.func19, Try.ntmps19
    go_wp2_with (go_at_call 20; with_reducible refine (calls_bool (IsModular_any HR.out) HM.out).mono ?_)
    rintro _ w1 ⟨rfl, hb1⟩
    have e1 := (hb1.cell (p := ⟨w.heap.size, 1, none⟩) (by simp)).trans (show _ = some (.int .i64 t) by simp)
    go_wp2_with (go_at_call 21; ((with_reducible refine (within_any _ _ _ _).mono ?_); rintro e w' ⟨rfl, rfl⟩))
    go_ret
    exact ⟨ret_bool (by simp [facB, HM.out]), (below_box _).trans (hb1.mono (by simp))⟩
  · have HM := Lib.hid hm
    clear hm
    go_enter Try.func19, Try.ntmps19
    go_wp2_with (go_at_call 20; with_reducible refine (calls_bool (IsModular_any HR.out) HM.out).mono ?_)
    rintro _ w1 ⟨rfl, hb1⟩
    go_wp2
    go_ret
    exact ⟨ret_bool (by simp [facB, HM.out]), (below_box _).trans (hb1.mono (by simp))⟩
theorem isNil_any {t : Int} {u : Value} {z : List Int} {w : World} (h : Reads w u z) :
    Calls Try.prog 24 #[.agg #[u, .int .i64 t]] w fun e w' => e = .returned (.bool (decide (z.length = 0))) ∧ Below w.heap.size w w' := by
  obtain ⟨a, cap, rfl, _, _⟩ := reads_nil_eq h
  have hl := h.1
  clear h
  go_enter Try.func24, Try.ntmps24
  go_wp2
  go_ret
  exact ⟨ret_bool (by rw [Bool.eq_iff_iff]; simp), below_box _⟩

set_option maxHeartbeats 2000000 in
theorem IndexFunc_bad {v : Value} {zss : List (List Int)} {ts : List Int} {w : World} {B : Nat} {P : Nat → Bool} (h : FReads w v zss ts)
    (hf : ∀ (u : Value) (i : Nat) (w' : World), i < zss.length → Below w.heap.size w w' → Reads w' u (row zss i) → Calls Try.prog 19 #[.agg #[u, .int .i64 (el ts i)], .pointer (some ⟨B, 0, none⟩)] w' fun e w'' => e = .returned (.bool (P i)) ∧ Below w'.heap.size w' w'') :
    Calls Try.prog 35 #[v, .func (.func 19) #[] #[.pointer (some ⟨B, 0, none⟩)]] w fun e w' => ∃ q : Int, e = .returned (.int .i64 q) ∧ Below w.heap.size w w' ∧ decide (0 ≤ q) = anyB P zss.length ∧ -1 ≤ q ∧ q ≤ 1048576 := by
  obtain ⟨h1, h2, h2', a, cap, U, rfl, h3, h4, h5, h6⟩ := h
  obtain ⟨n, hn⟩ : ∃ n, zss.length = n := ⟨_, rfl⟩
  rw [hn] at h1 h2 h3 h5 h6 hf ⊢
  have HC := Lib.hid h5
  have HU := Lib.hid h6
  have HF := Lib.hid hf
  clear h5 h6 hn h2' hf h1
  go_enter Try.func35, Try.ntmps35
  go_wp2
  go_loopw [8] (fun c wr => ∃ k : Nat, c = .int .i64 (k : Int) ∧ k ≤ n ∧ Hid (∀ j, j < k → P j = false) ∧ Below w.heap.size w wr) (fun c _ => n - (intOf c).toNat)
  case atStart => exact ⟨0, rfl, by omega, fun j hj => by omega, Below.refl _ _⟩
  case round =>
    obtain ⟨k, rfl, hk, HI, hbel⟩ := hrel
    have HB := Lib.hid hbel
    have hsz := hbel.size
    clear hbel
    by_cases hlt : k < n
    · obtain ⟨b, o, rfl, hb, hc⟩ := HC.out (by omega)
      have f1 := (HB.out.cell (p := ⟨b, o + k * 2, none⟩) hb).trans (hc k hlt).1
      have f2 := (HB.out.cell (p := ⟨b, o + k * 2 + 1, none⟩) hb).trans (hc k hlt).2
      have hcall := HF.out (U k) k wr hlt HB.out ((HU.out k hlt).step HB.out)
      generalize el ts k = t at *
      generalize U k = uk at *
      rcases Bool.eq_false_or_eq_true (P k) with hp | hp
      · have HP := Lib.hid (calls_bool hcall hp)
        have HPK := Lib.hid hp
        clear hp hcall hc
        go_wp2_with (go_at_call 19; with_reducible refine HP.out.mono ?_)
        rintro _ w1 ⟨rfl, hb1⟩
        go_wp2
        go_ret
        exact ⟨k, rfl, HB.out.trans (hb1.mono hsz), by rw [anyB_true hlt HPK.out]; simp, by omega, by omega⟩
      · have HP := Lib.hid (calls_bool hcall hp)
        have HPK := Lib.hid hp
        clear hp hcall hc
        go_wp2_with (go_at_call 19; with_reducible refine HP.out.mono ?_)
        rintro _ w1 ⟨rfl, hb1⟩
        go_wp2
        go_roundw
        case rel => exact ⟨k + 1, by go_num, by omega, fun j hj => by
          by_cases e : j = k
          · rw [e]; exact HPK.out
          · exact HI.out j (by omega), HB.out.trans (hb1.mono hsz)⟩
        case measure => simp [intOf]; omega
    · obtain rfl : k = n := by omega
      go_wp2
      go_ret
      exact ⟨-1, rfl, HB.out, by rw [anyB_false HI.out]; rfl, by omega, by omega⟩
theorem ContainsFunc_bad {v : Value} {zss : List (List Int)} {ts : List Int} {w : World} {B : Nat} {P : Nat → Bool} (h : FReads w v zss ts)
    (hf : ∀ (u : Value) (i : Nat) (w' : World), i < zss.length → Below w.heap.size w w' → Reads w' u (row zss i) → Calls Try.prog 19 #[.agg #[u, .int .i64 (el ts i)], .pointer (some ⟨B, 0, none⟩)] w' fun e w'' => e = .returned (.bool (P i)) ∧ Below w'.heap.size w' w'') :
    Calls Try.prog 23 #[v, .func (.func 19) #[] #[.pointer (some ⟨B, 0, none⟩)]] w fun e w' => e = .returned (.bool (anyB P zss.length)) ∧ Below w.heap.size w w' := by
  have HC := Lib.hid (IndexFunc_bad h hf)
  obtain ⟨h1, h2, h2', a, cap, U, rfl, h3, h4, h5, h6⟩ := h
  clear hf h1 h2 h2' h3 h4 h5 h6
  go_enter Try.func23, Try.ntmps23
  go_wp2_with (go_at_call 35; with_reducible refine HC.out.mono ?_)
  rintro _ w1 ⟨q, rfl, hb1, hq, hq1, hq2⟩
  have HQ := Lib.hid hq
  clear hq
  go_wp2
  go_ret
  exact ⟨ret_bool HQ.out, hb1⟩

set_option maxHeartbeats 2000000 in
theorem IndexFunc_nil {v : Value} {zss : List (List Int)} {ts : List Int} {w : World} {P : Nat → Bool} (h : FReads w v zss ts)
    (hf : ∀ (u : Value) (i : Nat) (w' : World), i < zss.length → Below w.heap.size w w' → Reads w' u (row zss i) → Calls Try.prog 24 #[.agg #[u, .int .i64 (el ts i)]] w' fun e w'' => e = .returned (.bool (P i)) ∧ Below w'.heap.size w' w'') :
    Calls Try.prog 35 #[v, .func (.func 24) #[] #[]] w fun e w' => ∃ q : Int, e = .returned (.int .i64 q) ∧ Below w.heap.size w w' ∧ decide (0 ≤ q) = anyB P zss.length ∧ -1 ≤ q ∧ q ≤ 1048576 := by
  obtain ⟨h1, h2, h2', a, cap, U, rfl, h3, h4, h5, h6⟩ := h
  obtain ⟨n, hn⟩ : ∃ n, zss.length = n := ⟨_, rfl⟩
  rw [hn] at h1 h2 h3 h5 h6 hf ⊢
  have HC := Lib.hid h5
  have HU := Lib.hid h6
  have HF := Lib.hid hf
  clear h5 h6 hn h2' hf h1
  go_enter Try.func35, Try.ntmps35
  go_wp2
  go_loopw [8] (fun c wr => ∃ k : Nat, c = .int .i64 (k : Int) ∧ k ≤ n ∧ Hid (∀ j, j < k → P j = false) ∧ Below w.heap.size w wr) (fun c _ => n - (intOf c).toNat)
  case atStart => exact ⟨0, rfl, by omega, fun j hj => by omega, Below.refl _ _⟩
  case round =>
    obtain ⟨k, rfl, hk, HI, hbel⟩ := hrel
    have HB := Lib.hid hbel
    have hsz := hbel.size
    clear hbel
    by_cases hlt : k < n
    · obtain ⟨b, o, rfl, hb, hc⟩ := HC.out (by omega)
      have f1 := (HB.out.cell (p := ⟨b, o + k * 2, none⟩) hb).trans (hc k hlt).1
      have f2 := (HB.out.cell (p := ⟨b, o + k * 2 + 1, none⟩) hb).trans (hc k hlt).2
      have hcall := HF.out (U k) k wr hlt HB.out ((HU.out k hlt).step HB.out)
      generalize el ts k = t at *
      generalize U k = uk at *
      rcases Bool.eq_false_or_eq_true (P k) with hp | hp
      · have HP := Lib.hid (calls_bool hcall hp)
        have HPK := Lib.hid hp
        clear hp hcall hc
        go_wp2_with (go_at_call 24; with_reducible refine HP.out.mono ?_)
        rintro _ w1 ⟨rfl, hb1⟩
        go_wp2
        go_ret
        exact ⟨k, rfl, HB.out.trans (hb1.mono hsz), by rw [anyB_true hlt HPK.out]; simp, by omega, by omega⟩
      · have HP := Lib.hid (calls_bool hcall hp)
        have HPK := Lib.hid hp
        clear hp hcall hc
        go_wp2_with (go_at_call 24; with_reducible refine HP.out.mono ?_)
        rintro _ w1 ⟨rfl, hb1⟩
        go_wp2
        go_roundw
        case rel => exact ⟨k + 1, by go_num, by omega, fun j hj => by
          by_cases e : j = k
          · rw [e]; exact HPK.out
          · exact HI.out j (by omega), HB.out.trans (hb1.mono hsz)⟩
        case measure => simp [intOf]; omega
    · obtain rfl : k = n := by omega
      go_wp2
      go_ret
      exact ⟨-1, rfl, HB.out, by rw [anyB_false HI.out]; rfl, by omega, by omega⟩
theorem ContainsFunc_nil {v : Value} {zss : List (List Int)} {ts : List Int} {w : World} {P : Nat → Bool} (h : FReads w v zss ts)
    (hf : ∀ (u : Value) (i : Nat) (w' : World), i < zss.length → Below w.heap.size w w' → Reads w' u (row zss i) → Calls Try.prog 24 #[.agg #[u, .int .i64 (el ts i)]] w' fun e w'' => e = .returned (.bool (P i)) ∧ Below w'.heap.size w' w'') :
    Calls Try.prog 23 #[v, .func (.func 24) #[] #[]] w fun e w' => e = .returned (.bool (anyB P zss.length)) ∧ Below w.heap.size w w' := by
  have HC := Lib.hid (IndexFunc_nil h hf)
  obtain ⟨h1, h2, h2', a, cap, U, rfl, h3, h4, h5, h6⟩ := h
  clear hf h1 h2 h2' h3 h4 h5 h6
  go_enter Try.func23, Try.ntmps23
  go_wp2_with (go_at_call 35; with_reducible refine HC.out.mono ?_)
  rintro _ w1 ⟨q, rfl, hb1, hq, hq1, hq2⟩
  have HQ := Lib.hid hq
  clear hq
  go_wp2
  go_ret
  exact ⟨ret_bool HQ.out, hb1⟩

/-! ### the product: plain -/
def timN (p : Int) (o g : List Int) : Nat → List Int
  | 0 => o
  | k + 1 => timL p (timN p o g k) g
def fprN (p : Int) (zss : List (List Int)) (ts : List Int) : Nat → List Int
  | 0 => [1]
  | i + 1 => timN p (fprN p zss ts i) (row zss i) (el ts i).toNat
def facsB (p : Int) (zss : List (List Int)) (ts : List Int) : Bool := !anyB (fun i => !facB p (row zss i) (el ts i)) zss.length
theorem facsB_at {p : Int} {zss : List (List Int)} {ts : List Int} (h : facsB p zss ts = true) {i : Nat} (hi : i < zss.length) : modlB p (row zss i) = true ∧ 1 ≤ el ts i ∧ el ts i ≤ 8 := by
  have hf : facB p (row zss i) (el ts i) = true := by
    rcases Bool.eq_false_or_eq_true (facB p (row zss i) (el ts i)) with h1 | h1
    · exact h1
    · have := anyB_true (P := fun i => !facB p (row zss i) (el ts i)) hi (by simp [h1])
      unfold facsB at h
      rw [this] at h
      cases h
  unfold facB at hf
  rw [Bool.and_eq_true] at hf
  exact ⟨hf.1, inB_iff.1 hf.2⟩
theorem timN_bd {p : Int} {o g : List Int} (hp : 1 ≤ p) (ho : In p o) (hg : g.length ≤ 9) : ∀ k, (timN p o g k).length ≤ o.length + 8 * k ∧ In p (timN p o g k)
  | 0 => ⟨by simp [timN], ho⟩
  | k + 1 => by
    have h1 := (timN_bd hp ho hg k).1
    have h2 := timL_len p (timN p o g k) g
    exact ⟨by rw [timN]; omega, timL_in hp _ _⟩
theorem fprN_bd {p : Int} {zss : List (List Int)} {ts : List Int} (hp : 2 ≤ p) (h : facsB p zss ts = true) : ∀ i, i ≤ zss.length → (fprN p zss ts i).length ≤ 1 + 64 * i ∧ In p (fprN p zss ts i)
  | 0, _ => ⟨by simp [fprN], In.of (by omega) (by intro x hx; simp [fprN] at hx; omega)⟩
  | i + 1, hi => by
    obtain ⟨h1, h2⟩ := fprN_bd hp h i (by omega)
    obtain ⟨h3, h4, h5⟩ := facsB_at h (show i < zss.length by omega)
    have h6 := (modl_in h3).2.2.2.1
    obtain ⟨h7, h8⟩ := timN_bd (show 1 ≤ p by omega) h2 h6 (el ts i).toNat
    exact ⟨by rw [fprN]; omega, h8⟩
theorem tim_nil1 (p : Int) (g : List Int) : timL p [] g = [] := by
  have := timL_len p [] g
  have h2 : mulL [] g = [] := by simp [mulL]
  rw [timL, h2]
  simp [redL, trimL, trimN]
theorem tim_nil2 (p : Int) (f : List Int) : timL p f [] = [] := by
  have h2 : mulL f [] = [] := by simp [mulL]
  rw [timL, h2]
  simp [redL, trimL, trimN]
theorem timN_nil (p : Int) (g : List Int) : ∀ k, timN p [] g k = []
  | 0 => rfl
  | k + 1 => by rw [timN, timN_nil p g k, tim_nil1]
theorem fprN_nil {p : Int} {zss : List (List Int)} {ts : List Int} (h : facsB p zss ts = true) {j : Nat} (hj : j < zss.length) (h0 : row zss j = []) : ∀ i, j < i → i ≤ zss.length → fprN p zss ts i = []
  | 0, h1, _ => by omega
  | i + 1, h1, h2 => by
    rw [fprN]
    by_cases e : j = i
    · subst e
      obtain ⟨_, h3, _⟩ := facsB_at h hj
      obtain ⟨k, hk⟩ : ∃ k, (el ts j).toNat = k + 1 := ⟨(el ts j).toNat - 1, by omega⟩
      rw [h0, hk, timN, tim_nil2]
    · rw [fprN_nil h hj h0 i (by omega) (by omega), timN_nil]
def fpC (p : Int) (zss : List (List Int)) (ts : List Int) : Int := if smallB p && facsB p zss ts then if 8 < zss.length then 3 else if 9 < (fprN p zss ts zss.length).length then 3 else 0 else 1
def fpL (p : Int) (zss : List (List Int)) (ts : List Int) : List Int := if fpC p zss ts = 0 then fprN p zss ts zss.length else []
theorem own_one1 {w : World} {lo : Nat} (h : lo ≤ w.heap.size) (x : Int) : Own (w.alloc (.cells #[.int .i64 x] 2)) lo (.slice (some ⟨w.heap.size, 0, none⟩) 1 1) [x] :=
  by
  refine ⟨by simp, by simp, .inr ⟨w.heap.size, 1, #[.int .i64 x], rfl, h, ?_, by simp, by simp [maxLen], by simp, by simp⟩⟩
  show (w.heap.push _)[w.heap.size]? = _
  simp

set_option maxHeartbeats 4000000 in
theorem ProductOf_any {p : Int} {v : Value} {zss : List (List Int)} {ts : List Int} {w : World} (h : FReads w v zss ts) :
    Calls Try.prog 7 #[.int .i64 p, v] w (RetIC (fpL p zss ts) (fpC p zss ts) w) := by
  have hn2 := h.2.1
  obtain ⟨a, cap, U, hv, _⟩ := h.2.2.2
  subst hv
  obtain ⟨n, hn⟩ : ∃ n, zss.length = n := ⟨_, rfl⟩
  have hr := h.step (below_box (.cells #[.int .i64 p] 2))
  rw [hn] at hr ⊢
  have HR := Lib.hid hr
  clear h hr
  rcases Bool.eq_false_or_eq_true (smallB p) with hs | hs
  · have HS := Lib.hid hs
    obtain ⟨p1, p2⟩ := small_bd hs
    clear hs
    have HBAD := Lib.hid (fun (w1 : World) (hw : w1 = w.alloc (.cells #[.int .i64 p] 2)) => ContainsFunc_bad (B := w.heap.size) (P := fun i => !facB p (row zss i) (el ts i)) (HR.out) (fun u i w' hi hb hru => isBad_any hru (by
      rw [hb.cell (p := ⟨w.heap.size, 0, none⟩) (by simp)]; simp) (by have := hb.size; simp at this; omega)))
    rcases Bool.eq_false_or_eq_true (facsB p zss ts) with hf | hf
    · have HF := Lib.hid hf
      have HA := Lib.hid (show anyB (fun i => !facB p (row zss i) (el ts i)) zss.length = false by unfold facsB at hf; simpa using hf)
      clear hf
      have h88 : (8 < n ↔ 8 < zss.length) ∧ ((8 : Int) < (n : Int) ↔ 8 < n) := ⟨by rw [hn], by omega⟩
      by_cases h8 : 8 < zss.length
      · have h8n : 8 < n := h88.1.2 h8
        clear h88
        have HC := Lib.hid (show fpC p zss ts = 3 by simp [fpC, HS.out, HF.out, h8])
        go_enter Try.func7, Try.ntmps7
        go_wp2_with (first | (go_at_call 22; ((with_reducible refine (calls_bool (isSmallPrime_any _ _) HS.out).mono ?_); rintro e w' ⟨rfl, rfl⟩)) | (go_at_call 23; with_reducible refine (calls_bool (HBAD.out _ rfl) HA.out).mono ?_))
        rintro _ w1 ⟨rfl, hb1⟩
        go_wp2
        go_ret2
        exact ⟨.slice none 0 0, by simp [HC.out], by simpa [fpL, HC.out] using Own.nil, (below_box _).trans (hb1.mono (by simp))⟩
      · have h8n : ¬ (8 : Int) < (n : Int) := fun hh => h8 (h88.1.1 (h88.2.1 hh))
        clear h88
        have HFB := Lib.hid (fprN_bd p1 HF.out)
        have HFA := Lib.hid (fun (i : Nat) (hi : i < zss.length) => facsB_at HF.out hi)
        have HNIL := Lib.hid (fun (w1 : World) (hb : Below (w.alloc (.cells #[.int .i64 p] 2)).heap.size (w.alloc (.cells #[.int .i64 p] 2)) w1) => ContainsFunc_nil (P := fun i => decide ((row zss i).length = 0)) (HR.out.step hb) (fun u i w' hi hb hru => isNil_any hru))
        rcases Bool.eq_false_or_eq_true (anyB (fun i => decide ((row zss i).length = 0)) zss.length) with hnl | hnl
        · have HNL := Lib.hid hnl
          have hpn : fprN p zss ts zss.length = [] := by
            unfold anyB at hnl
            rw [List.any_eq_true] at hnl
            obtain ⟨j, hj, hj2⟩ := hnl
            have hj3 := List.mem_range.1 hj
            exact fprN_nil HF.out hj3 (List.length_eq_zero_iff.1 (by simpa using hj2)) _ hj3 (Nat.le_refl _)
          have HC := Lib.hid (show fpC p zss ts = 0 by simp [fpC, HS.out, HF.out, h8, hpn])
          have HPN := Lib.hid hpn
          clear hnl hpn
          go_enter Try.func7, Try.ntmps7
          go_wp2_with (first | (go_at_call 22; ((with_reducible refine (calls_bool (isSmallPrime_any _ _) HS.out).mono ?_); rintro e w' ⟨rfl, rfl⟩)) | (go_at_call 23; with_reducible refine (calls_bool (HBAD.out _ rfl) HA.out).mono ?_))
          rintro _ w1 ⟨rfl, hb1⟩
          go_wp2_with (go_at_call 23; with_reducible refine (calls_bool (HNIL.out _ hb1) HNL.out).mono ?_)
          rintro _ w2 ⟨rfl, hb2⟩
          go_wp2
          go_ret2
          exact ⟨.slice none 0 0, by simp [HC.out], by simpa [fpL, HC.out, HPN.out] using Own.nil, (below_box _).trans ((hb1.trans (hb2.mono hb1.size)).mono (by simp))⟩
        · have HNL := Lib.hid hnl
          clear hnl
          have HR2 := Lib.hid HR.out
          obtain ⟨q1, q2, q3, a5, cap5, U5, e5, q4, q5, q6, q7⟩ := HR.out
          injection e5 with e5 e6 e7
          subst e5 e7
          rw [hn] at q1 q2 q3 q4 q6 q7 h8 hn2
          have HFB := Lib.hid (hn ▸ HFB.out)
          have HFA := Lib.hid (hn ▸ HFA.out)
          have HC6 := Lib.hid q6
          have HU7 := Lib.hid q7
          have HTQ := Lib.hid q3
          have HN := Lib.hid hn
          clear q6 q7 q3 hn e6
          go_enter Try.func7, Try.ntmps7
          go_wp2_with (first | (go_at_call 22; ((with_reducible refine (calls_bool (isSmallPrime_any _ _) HS.out).mono ?_); rintro e w' ⟨rfl, rfl⟩)) | (go_at_call 23; with_reducible refine (calls_bool (HBAD.out _ rfl) HA.out).mono ?_))
          rintro _ w1 ⟨rfl, hb1⟩
          go_wp2_with (go_at_call 23; with_reducible refine (calls_bool (HNIL.out _ hb1) HNL.out).mono ?_)
          rintro _ w2 ⟨rfl, hb2⟩
          have hb02 := hb1.trans (hb2.mono hb1.size)
          have hp2 := (hb02.cell (p := ⟨w.heap.size, 0, none⟩) (by simp)).trans (show _ = some (.int .i64 p) by simp)
          have hs02 := hb02.size
          simp at hs02
          have HB02 := Lib.hid hb02
          clear hb1 hb2 hb02
          go_wp2
          go_loopw [30, 7] (fun c d wr => ∃ i : Nat, c = .int .i64 (i : Int) ∧ i ≤ n ∧ Own wr w2.heap.size d (fprN p zss ts i) ∧ Below w2.heap.size w2 wr) (fun c _ _ => n - (intOf c).toNat)
          case atStart => exact ⟨0, rfl, by omega, own_one1 (Nat.le_refl _) 1, below_box _⟩
          case round =>
            obtain ⟨i, rfl, hi, hown, hbel⟩ := hrel
            have HO := Lib.hid hown
            have HW := Lib.hid hbel
            have hsw := hbel.size
            clear hown hbel
            by_cases hlt : i < n
            · obtain ⟨b, o, rfl, hb, hc⟩ := HC6.out (by omega)
              have HBW := Lib.hid (HB02.out.trans (HW.out.mono HB02.out.size))
              have f1 := (HBW.out.cell (p := ⟨b, o + i * 2, none⟩) hb).trans (hc i hlt).1
              have f2 := (HBW.out.cell (p := ⟨b, o + i * 2 + 1, none⟩) hb).trans (hc i hlt).2
              have hru := (HU7.out i hlt).step HBW.out
              obtain ⟨a8, c8, e8, _, _⟩ := reads_nil_eq hru
              rw [e8] at f1 hru
              obtain ⟨m1, m2, m3⟩ := HFA.out i hlt
              obtain ⟨_, _, _, m4, m5⟩ := modl_in m1
              obtain ⟨m6, m7⟩ := HFB.out i (by omega)
              have HIG := Lib.hid m5
              have HIP := Lib.hid m7
              have HNX := Lib.hid (show fprN p zss ts (i + 1) = timN p (fprN p zss ts i) (row zss i) (el ts i).toNat from rfl)
              have HTB := Lib.hid (fun k => timN_bd (k := k) (show 1 ≤ p by omega) m7 m4)
              have hp3 := (HW.out.cell (p := ⟨w.heap.size, 0, none⟩) (by show w.heap.size < _; omega)).trans hp2
              generalize el ts i = t at *
              generalize fprN p zss ts i = F at *
              generalize hgr : row zss i = G at *
              have hbx := below_box (w := wr) (.cells #[.slice a8 G.length c8, .int .i64 t] 39)
              have g1 : (wr.alloc (.cells #[.slice a8 G.length c8, .int .i64 t] 39)).cell? ⟨wr.heap.size, 0, none⟩ = some (.slice a8 G.length c8) := by simp
              have g2 : (wr.alloc (.cells #[.slice a8 G.length c8, .int .i64 t] 39)).cell? ⟨wr.heap.size, 1, none⟩ = some (.int .i64 t) := by simp
              have g3 : wr.heap.size < (wr.alloc (.cells #[.slice a8 G.length c8, .int .i64 t] 39)).heap.size := by simp
              have hp4 := (hbx.cell (p := ⟨w.heap.size, 0, none⟩) (by show w.heap.size < _; omega)).trans hp3
              have HRG := Lib.hid (hru.step hbx)
              have HOB := Lib.hid (HO.out.step hbx)
              have HBX := Lib.hid hbx
              clear hbx hru m1 m5 m7 hc
              go_wp2
              generalize (wr.alloc (.cells #[.slice a8 G.length c8, .int .i64 t] 39)) = wb at *
              obtain ⟨Z, hZ, HZ1⟩ : ∃ Z : Nat, Z = wr.heap.size ∧ Hid (∀ w' : World, Below wb.heap.size wb w' → w'.cell? ⟨Z, 0, none⟩ = some (.slice a8 G.length c8)) := ⟨_, rfl, fun w' hb => (hb.cell (p := ⟨wr.heap.size, 0, none⟩) g3).trans g1⟩
              rw [← hZ]
              clear hZ g1 g2 g3
              go_loopw [36, 7] (fun c d wr2 => ∃ k : Nat, c = .int .i64 (k : Int) ∧ (k : Int) ≤ t ∧ Own wr2 w2.heap.size d (timN p F G k) ∧ Below wb.heap.size wb wr2) (fun c _ _ => (t - intOf c).toNat)
              case atStart => exact ⟨0, rfl, by omega, HOB.out, Below.refl _ _⟩
              case round =>
                obtain ⟨k, rfl, hk, hown, hbel⟩ := hrel
                have HOK := Lib.hid hown
                have HWK := Lib.hid hbel
                have hsk := hbel.size
                have hsx := HBX.out.size
                clear hown hbel
                by_cases hkt : (k : Int) < t
                · have z1 := HZ1.out _ HWK.out
                  have z2 := (HWK.out.cell (p := ⟨w.heap.size, 0, none⟩) (by show w.heap.size < _; omega)).trans hp4
                  obtain ⟨n1, n2⟩ := HTB.out k
                  have HN2 := Lib.hid n2
                  have HOR := Lib.hid HOK.out.reads
                  have HRG2 := Lib.hid (HRG.out.step HWK.out)
                  clear n2
                  go_wp2_with (go_at_call 25; with_reducible refine (times_any HOR.out HRG2.out HN2.out HIG.out ⟨p1, p2⟩ (by omega) (by omega)).mono ?_)
                  rintro _ w5 ⟨v5, rfl, o5, hb5⟩
                  go_wp2
                  go_roundw
                  case rel => exact ⟨k + 1, by go_num, by omega, o5.mono (by omega), HWK.out.trans (hb5.mono hsk)⟩
                  case measure => simp [intOf]; omega
                · have hkt2 : k = t.toNat := by omega
                  have HKT := Lib.hid hkt2
                  clear hkt2
                  go_wp2
                  go_roundw
                  case rel => exact ⟨i + 1, by go_num, by omega, by rw [HNX.out, ← HKT.out]; exact HOK.out, HW.out.trans ((HBX.out.trans (HWK.out.mono hsx)).mono hsw)⟩
                  case measure => simp [intOf]; omega
            · obtain rfl : i = n := by omega
              obtain ⟨a7, c7, e7, _, _⟩ := reads_nil_eq HO.out.reads
              have HO7 := Lib.hid HO.out
              subst e7
              have hbf := HB02.out.trans (HW.out.mono HB02.out.size)
              have HBF := Lib.hid ((below_box (w := w) (.cells #[.int .i64 p] 2)).trans (hbf.mono (by simp)))
              clear hbf
              by_cases h9 : 9 < (fprN p zss ts i).length
              · have HC := Lib.hid (show fpC p zss ts = 3 by simp [fpC, HS.out, HF.out, HN.out, h8, h9])
                go_wp2
                go_ret2
                exact ⟨.slice none 0 0, by simp [HC.out], by simpa [fpL, HC.out] using Own.nil, HBF.out⟩
              · have HC := Lib.hid (show fpC p zss ts = 0 by simp [fpC, HS.out, HF.out, HN.out, h8, h9])
                have HL := Lib.hid (show fpL p zss ts = fprN p zss ts i by simp [fpL, HC.out, HN.out])
                go_wp2
                go_ret2
                exact ⟨.slice a7 (fprN p zss ts i).length c7, by simp [HC.out], by rw [HL.out]; exact HO7.out.mono (by omega), HBF.out⟩
    · have HA := Lib.hid (show anyB (fun i => !facB p (row zss i) (el ts i)) zss.length = true by unfold facsB at hf; simpa using hf)
      have HC := Lib.hid (show fpC p zss ts = 1 by simp [fpC, hf])
      clear hf
      go_enter Try.func7, Try.ntmps7
      go_wp2_with (first | (go_at_call 22; ((with_reducible refine (calls_bool (isSmallPrime_any _ _) HS.out).mono ?_); rintro e w' ⟨rfl, rfl⟩)) | (go_at_call 23; with_reducible refine (calls_bool (HBAD.out _ rfl) HA.out).mono ?_))
      rintro _ w1 ⟨rfl, hb1⟩
      go_wp2
      go_ret2
      exact ⟨.slice none 0 0, by simp [HC.out], by simpa [fpL, HC.out] using Own.nil, (below_box _).trans (hb1.mono (by simp))⟩
  · have HS := Lib.hid hs
    have HC := Lib.hid (show fpC p zss ts = 1 by simp [fpC, hs])
    clear hs
    go_enter Try.func7, Try.ntmps7
    go_wp2_with (go_at_call 22; ((with_reducible refine (calls_bool (isSmallPrime_any _ _) HS.out).mono ?_); rintro e w' ⟨rfl, rfl⟩))
    go_ret2
    exact ⟨.slice none 0 0, by simp [HC.out], by simpa [fpL, HC.out] using Own.nil, below_box _⟩

end Go.Proofs.Ytelpnpfmedlklaa
