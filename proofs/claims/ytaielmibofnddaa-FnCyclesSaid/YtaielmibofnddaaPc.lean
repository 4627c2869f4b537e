/- Contracts: the reference's permutation with a rank. -/
import Derived.Test.YtaielmibofnddaaPb
namespace Go.Proofs.Ytaielmibofnddaa
open Go.RowKit
set_option linter.unusedVariables false
set_option linter.unusedSimpArgs false
set_option maxRecDepth 100000

/-- 'append(out, xs...)', out a slice of the call's own. -/
theorem append_ints {ops : Array Oper} {rest : List Oper} {o : Oper} {a : Act} {Q : Exit → Act → World → Prop} (wr : World) (hgd : o.guard = none) (s x : Operand)
    (ho : o.op = .call { callee := .builtin .append, args := #[s, x], argTypes := #[24, 24] }) {lo : Nat} {v : Value} {L M : List Int} {ad : Addr} {m c : Nat} (hs : a.eval s = v) (hown : Own wr lo v L)
    (hx : a.eval x = .slice (some ad) m c) (hm : M.length = m) (hc : ∀ j u, (ints M)[j]? = some u → wr.cell? (ad.add j) = some u) (hlen : L.length + m ≤ 1099511627776) (hlo : lo ≤ wr.heap.size)
    (h : ∀ v' w', Own w' lo v' (L ++ M) → wr.grownBy w' v.ownBlock → Below lo wr w' → wpList Try.prog ops Q rest (a.put o.dst v') w') : wpList Try.prog ops Q (o :: rest) a wr := by
  obtain ⟨i0, hi, hz0, hz1, hz2⟩ := info_parts info64
  subst hm
  refine wpList_append_own _ hgd s x 24 ho lo 2 i0 (.int .i64 0) 1 8 Try.underlying24 hi hz0 hz1 hz2 rfl (by decide) v L.length (L.map (.int .i64)) hs hown.2 ad M.length c (ints M) hx (by simp [ints]) hc (by intro u hu; obtain ⟨y, _, rfl⟩ := List.mem_map.1 hu; rfl) (by unfold maxLen; omega) (by omega) hlo ?_
  intro v' w' h1 h2 _
  refine h v' w' ⟨by simpa using hlen, by simpa [ints] using h1⟩ h2 ?_
  exact (Below.refl _ _).grown h2 hlo (fun k hk => (hown.lt k hk).1)
/-- The same as one step of a region that draws. -/
theorem step_append_ints {ops : Array Oper} {o : Oper} {a : Act} {w : World} {K : Act → World → Prop} {Q : Exit → Act → World → Prop} {E : Prop} (hgd : o.guard = none) (s x : Operand)
    (ho : o.op = .call { callee := .builtin .append, args := #[s, x], argTypes := #[24, 24] }) {lo : Nat} {v : Value} {L M : List Int} {ad : Addr} {m c : Nat} (hs : a.eval s = v) (hown : Own w lo v L)
    (hx : a.eval x = .slice (some ad) m c) (hm : M.length = m) (hc : ∀ j u, (ints M)[j]? = some u → w.cell? (ad.add j) = some u) (hlen : L.length + m ≤ 1099511627776) (hlo : lo ≤ w.heap.size)
    (h : ∀ v' w', Own w' lo v' (L ++ M) → w.grownBy w' v.ownBlock → Below lo w w' → K (a.put o.dst v') w') : if Region.wanted o (yielded ops a.tmps) = true then Oper.wp Try.prog o a w K Q else E := by
  have hw : Region.wanted o (yielded ops a.tmps) = true := by simp [Region.wanted, hgd]
  rw [if_pos hw]
  obtain ⟨i0, hi, hz0, hz1, hz2⟩ := info_parts info64
  subst hm
  refine wp_append_own _ s x 24 ho lo 2 i0 (.int .i64 0) 1 8 Try.underlying24 hi hz0 hz1 hz2 rfl (by decide) v L.length (L.map (.int .i64)) hs hown.2 ad M.length c (ints M) hx (by simp [ints]) hc (by intro u hu; obtain ⟨y, _, rfl⟩ := List.mem_map.1 hu; rfl) (by unfold maxLen; omega) (by omega) hlo ?_
  intro v' w' h1 h2 _
  refine h v' w' ⟨by simpa using hlen, by simpa [ints] using h1⟩ h2 ?_
  exact (Below.refl _ _).grown h2 hlo (fun k hk => (hown.lt k hk).1)
/-- The cells of a slice that reads zs, as the law on append asks for them. -/
theorem Reads.news {w : World} {b o cap : Nat} {zs : List Int} (h : Reads w (.slice (some ⟨b, o, none⟩) zs.length cap) zs) : ∀ j u, (ints zs)[j]? = some u → w.cell? ((⟨b, o, none⟩ : Addr).add j) = some u := by
  intro j u hu
  have hj : j < zs.length := by
    apply Decidable.byContradiction; intro hh
    rw [ints, List.getElem?_map, List.getElem?_eq_none (by omega)] at hu; cases hu
  obtain ⟨_, a, cap', hv, _, _, hc⟩ := h
  injection hv with e1 _ _
  subst e1
  obtain ⟨b', o', e, _, hcc⟩ := hc (by omega)
  injection e with e
  injection e with e2 e3 _
  subst e2 e3
  rw [Addr.add_lit, hcc j hj]
  rw [ints, List.getElem?_map, el_get hj] at hu
  simpa using hu

set_option maxHeartbeats 1000000 in
theorem l01Own_any {b o cap m : Nat} {zs : List Int} {w : World} (hm : zs.length = m) (h : Reads w (.slice (some ⟨b, o, none⟩) m cap) zs) :
    Calls Try.prog 56 #[.slice (some ⟨b, o, none⟩) m cap] w (RetInts zs w) := by
  subst hm
  have HL := Lib.hid h.1
  have HC := Lib.hid (h.step (below_box (.cells #[] 2))).news
  clear h
  go_enter Try.func56, Try.ntmps56
  go_wp2_with (at_builtin; refine append_ints _ rfl _ _ rfl rfl (Own.empty (Nat.le_refl _)) rfl rfl HC.out (by simpa using HL.out) (by simp) ?_)
  intro v' w' h1 h2 h3
  have H1 := Lib.hid (show Own w' w.heap.size v' zs by simpa using h1)
  have H3 := Lib.hid (show Below w.heap.size w w' from (below_box _).trans h3)
  clear h1 h2 h3
  go_wp2
  go_ret
  exact ⟨_, rfl, H1.out, H3.out⟩

theorem Own.news {w : World} {lo g n cap : Nat} {zs : List Int} (h : Own w lo (.slice (some ⟨g, 0, none⟩) n cap) zs) (k : Nat) : ∀ j u, (ints (zs.drop k))[j]? = some u → w.cell? ((⟨g, k, none⟩ : Addr).add j) = some u := by
  intro j u hu
  have hj : k + j < zs.length := by
    apply Decidable.byContradiction; intro hh
    rw [ints, List.getElem?_map, List.getElem?_drop, List.getElem?_eq_none (by omega)] at hu; cases hu
  rw [Addr.add_lit, h.cellAt hj]
  rw [ints, List.getElem?_map, List.getElem?_drop, el_get hj] at hu
  simpa using hu
theorem news_none {w : World} {ad : Addr} {zs : List Int} {k : Nat} (h : zs.length ≤ k) : ∀ j u, (ints (zs.drop k))[j]? = some u → w.cell? (ad.add j) = some u := by
  intro j u hu
  rw [ints, List.getElem?_map, List.getElem?_drop, List.getElem?_eq_none (by omega)] at hu; cases hu
theorem below_drew {w : World} : Below w.heap.size w w.drew := (Below.refl _ _).drew
set_option maxHeartbeats 4000000 in
theorem l21With_any (n : Nat) (r : Int) (w : World) (hn : n ≤ 6) (h0 : 0 ≤ r) (h1 : r < factZ n) :
    Calls Try.prog 51 #[.int .i64 (n : Int), .int .i64 r] w (RetInts (withL n r) w) := by
  have HS := Lib.hid (withInv_start h0 h1)
  clear h1
  go_enter Try.func51, Try.ntmps51
  go_wp2_with (go_at_call 43; with_reducible refine (l21One_any n _ (by omega)).mono ?_)
  rintro _ w1 ⟨v1, rfl, o1, hb1⟩
  have HO1 := Lib.hid o1
  have HB1 := Lib.hid hb1
  clear o1 hb1
  go_wp2
  go_loopw [1, 5, 6, 7] (fun rr l o c wr => ∃ (k : Nat) (R : Int) (L O : List Int), rr = .int .i64 R ∧ c = .int .i64 (k : Int) ∧ Hid (WithInv n r k R L O) ∧ Own wr w.heap.size l L ∧ Hid (l.ownBlock = none ∨ l.ownBlock ≠ o.ownBlock) ∧ Own wr w.heap.size o O ∧ Below w.heap.size w wr) (fun _ _ _ c _ => (intOf c).toNat)
  case atStart =>
    exact ⟨n, r, _, _, rfl, rfl, HS, HO1.out.step (below_box _), Lib.hid (by
      cases hb : v1.ownBlock with
      | none => exact .inl rfl
      | some b => right; intro e; have := (HO1.out.lt b hb).2; simp [Value.ownBlock] at e; omega), Own.empty HB1.out.size, HB1.out.trans ((below_box _).mono HB1.out.size)⟩
  case round =>
    clear HO1 HS HB1
    obtain ⟨k, R, L, O, rfl, rfl, HI, hl, HNE, ho, hbel⟩ := hrel
    have HL := Lib.hid hl
    have HO := Lib.hid ho
    have HB := Lib.hid hbel
    clear hl ho hbel
    by_cases hk : 0 < k
    · obtain ⟨a0, a1⟩ := withInv_at HI.out hk hn
      obtain ⟨f0, f1⟩ := factZ_bd (show (k : Int) - 1 ≤ 6 by have := HI.out.kn; omega)
      have hR0 := HI.out.r0
      have hkn := HI.out.kn
      have hR1 : R ≤ 720 := by have := HI.out.r1; have := (factZ_bd (show (k : Int) ≤ 6 by omega)).2; omega
      have HST := Lib.hid (withInv_step HI.out hk hn)
      obtain ⟨g, cap, rfl, hg1, hg2, hcap, hmax⟩ := HL.out.head (by have := HI.out.len; omega)
      have c1 : wr.cell? ⟨g, (R / factZ ((k : Int) - 1)).toNat, none⟩ = some (.int .i64 (el L (R / factZ ((k : Int) - 1)).toNat)) := HL.out.cellAt (by have := HI.out.len; omega)
      have hLk := HI.out.len
      have hOl : O.length + 1 ≤ 1099511627776 := by have := HI.out.out; omega
      have hcap2 : cap ≤ 9223372036854775807 := by unfold maxLen at hmax; omega
      have HLK := Lib.hid hLk
      have hai : R / factZ ((k : Int) - 1) < L.length := by omega
      clear hLk
      go_wp2_with (first | (go_at_call 52; ((with_reducible refine (l21Factorial_int _ _ (by omega) (by omega)).mono ?_); rintro e w' ⟨rfl, rfl⟩)) | (at_builtin; refine append_oneG _ rfl _ _ rfl rfl HO.out hOl HB.out.size rfl rfl ?_))
      intro v2 w2 o2 g2 b2
      have HL2 := Lib.hid (HL.out.kept g2 HNE.out)
      have HO2 := Lib.hid o2
      have HB2 := Lib.hid (HB.out.trans b2)
      generalize hq : R / factZ ((k : Int) - 1) = q at *
      obtain ⟨i, rfl⟩ : ∃ i : Nat, q = i := ⟨q.toNat, by omega⟩
      simp only [Int.toNat_natCast] at *
      clear hq o2 g2 b2 c1
      have hil : i < L.length := by omega
      have hil1 : i + 1 ≤ L.length := hil
      have hic : i ≤ cap := by omega
      have hic1 : i + 1 ≤ cap := by omega
      have hile : i ≤ L.length := by omega
      have hw1 : IntKind.i64.wrap ((i : Int) + 1) = (i : Int) + 1 := IntWalk.i64_in _ (by omega)
      have hw2 : 0 ≤ (i : Int) + 1 := by omega
      have hw3 : ((i : Int) + 1).toNat = i + 1 := by omega
      have HTL := Lib.hid (show (L.take i).length = i by rw [List.length_take]; omega)
      have HT := Lib.hid ((HL2.out.step below_drew).reads.take hile)
      have HLN := Lib.hid (show (L.take i).length + (L.length - (i + 1)) ≤ 1099511627776 by rw [HTL.out]; have := HL2.out.1; omega)
      have HD := Lib.hid (show (L.drop (i + 1)).length = L.length - (i + 1) by rw [List.length_drop])
      have hl2 : (i : Int) + 1 ≤ (L.length : Int) := by omega
      have hii : (i : Int) ≤ (i : Int) + 1 := by omega
      by_cases hc : cap = i + 1
      · subst hc
        have HD0 := Lib.hid (show (L.drop (i + 1)).length = 0 by rw [List.length_drop]; omega)
        have HLN0 := Lib.hid (show (L.take i).length + 0 ≤ 1099511627776 by rw [HTL.out]; have := HL2.out.1; omega)
        go_wp2
        go_region_law (first | (refine step_append_ints (ad := ⟨g, 0, none⟩) (c := 0) rfl (.tmp 37) (.tmp 41) rfl (by simp [Act.eval, Act.put]) HC3.out (by simp [Act.eval, Act.put]) HD0.out (news_none (by omega)) HLN0.out b3.size ?_; intro v4 w4 o4 g4 b4) | (go_simp; go_wp2_with (go_at_call 56; (with_reducible refine (l01Own_any HTL.out HT.out).mono ?_); rintro e3 w3 ⟨v3, rfl, o3, b3⟩; have HC3 := Lib.hid o3; have HL3 := Lib.hid ((HL2.out.step below_drew).step b3))))
        have HL4 := Lib.hid (show Own w4 w.heap.size v4 (L.eraseIdx i) by rw [List.eraseIdx_eq_take_drop_succ]; exact o4.mono HB2.out.size)
        have HO4 := Lib.hid (((HO2.out.step below_drew).step b3).kept g4 (by
          cases hb : v2.ownBlock with
          | none => exact .inl rfl
          | some b =>
            right
            intro e
            have h1 : w2.heap.size ≤ b := (HC3.out.lt b e.symm).1
            have h2 := (HO2.out.lt b hb).2
            omega))
        have HN4 := Lib.hid (show v4.ownBlock = none ∨ v4.ownBlock ≠ v2.ownBlock by
          cases hb : v4.ownBlock with
          | none => exact .inl rfl
          | some b =>
            right
            intro e
            have h1 : w2.heap.size ≤ b := (o4.lt b hb).1
            have h2 := (HO2.out.lt b e.symm).2
            omega)
        have HB4 := Lib.hid (((HB2.out.trans (below_drew.mono HB2.out.size)).trans (b3.mono HB2.out.size)).trans (b4.mono HB2.out.size))
        clear o3 b3 o4 g4 b4
        go_wp2
        go_roundw
        case rel => exact ⟨k - 1, _, _, _, rfl, vint (by omega), HST, HL4.out, HN4, HO4.out, HB4.out⟩
        case measure => simp [intOf]; omega
      · go_wp2
        go_region_law (first | (refine step_append_ints (ad := ⟨g, i + 1, none⟩) (c := cap - (i + 1)) rfl (.tmp 37) (.tmp 41) rfl (by simp [Act.eval, Act.put]) HC3.out (by simp [Act.eval, Act.put]) HD.out (HL3.out.news (i + 1)) HLN.out b3.size ?_; intro v4 w4 o4 g4 b4) | (go_simp; go_wp2_with (go_at_call 56; (with_reducible refine (l01Own_any HTL.out HT.out).mono ?_); rintro e3 w3 ⟨v3, rfl, o3, b3⟩; have HC3 := Lib.hid o3; have HL3 := Lib.hid ((HL2.out.step below_drew).step b3))))
        have HL4 := Lib.hid (show Own w4 w.heap.size v4 (L.eraseIdx i) by rw [List.eraseIdx_eq_take_drop_succ]; exact o4.mono HB2.out.size)
        have HO4 := Lib.hid (((HO2.out.step below_drew).step b3).kept g4 (by
          cases hb : v2.ownBlock with
          | none => exact .inl rfl
          | some b =>
            right
            intro e
            have h1 : w2.heap.size ≤ b := (HC3.out.lt b e.symm).1
            have h2 := (HO2.out.lt b hb).2
            omega))
        have HN4 := Lib.hid (show v4.ownBlock = none ∨ v4.ownBlock ≠ v2.ownBlock by
          cases hb : v4.ownBlock with
          | none => exact .inl rfl
          | some b =>
            right
            intro e
            have h1 : w2.heap.size ≤ b := (o4.lt b hb).1
            have h2 := (HO2.out.lt b e.symm).2
            omega)
        have HB4 := Lib.hid (((HB2.out.trans (below_drew.mono HB2.out.size)).trans (b3.mono HB2.out.size)).trans (b4.mono HB2.out.size))
        clear o3 b3 o4 g4 b4
        go_wp2
        go_roundw
        case rel => exact ⟨k - 1, _, _, _, rfl, vint (by omega), HST, HL4.out, HN4, HO4.out, HB4.out⟩
        case measure => simp [intOf]; omega
    · obtain rfl : k = 0 := by omega
      have HQ := Lib.hid (show O = withL n r from HI.out.goal)
      go_wp2
      go_ret
      exact ⟨_, rfl, by have := HO.out; rw [HQ.out] at this; exact this, HB.out⟩

end Go.Proofs.Ytaielmibofnddaa
