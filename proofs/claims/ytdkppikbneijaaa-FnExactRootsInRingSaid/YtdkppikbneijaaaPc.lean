/- Contracts: the reference's permutation with a rank. -/
import Derived.Test.YtdkppikbneijaaaPb
namespace Go.Proofs.Ytdkppikbneijaaa
open Go.RowKit
set_option linter.unusedVariables false
set_option linter.unusedSimpArgs false
set_option maxRecDepth 100000

/-- 'append(out, xs...)', out a slice of the call's own. -/
theorem append_ints {ops : Array Oper} {rest : List Oper} {o : Oper} {a : Act} {Q : Exit → Act → World → Prop} (wr : World) (hgd : o.guard = none) (s x : Operand)
    (ho : o.op = .call { callee := .builtin .append, args := #[s, x], argTypes := #[24, 24] }) {lo : Nat} {v : Value} {L M : List Int} {ad : Addr} {m c : Nat} (hs : a.eval s = v) (hown : Own wr lo v L)
    (hx : a.eval x = .slice (some ad) m c) (hm : M.length = m) (hc : ∀ j u, (ints M)[j]? = some u → wr.cell? (ad.add j) = some u) (hlen : L.length + m ≤ 1099511627776) (hlo : lo ≤ wr.heap.size)
    (h : ∀ v' w', Own w' lo v' (L ++ M) → wr.grownBy w' v.ownBlock → Below lo wr w' → wpList Try.prog ops Q rest (a.put o.dst v') w') : wpList Try.prog ops Q (o :: rest) a wr := by
  obtain ⟨i0, hi, hz0, hz1, hz2⟩ := info_parts info64
  subst hm
  refine wpList_append_own _ hgd s x 24 ho lo 2 i0 (.int .i64 0) 1 8 Try.underlying24 hi hz0 hz1 hz2 rfl (by decide) v L.length (L.map (.int .i64)) hs hown.2 ad M.length c (ints M) hx (by simp [ints]) hc (by intro u hu; obtain ⟨y, _, rfl⟩ := List.mem_map.1 hu; rfl) (by unfold maxLen; omega) (by omega) hlo ?_
  intro v' w' h1 h2 _
  refine h v' w' ⟨by simpa using hlen, by simpa [ints] using h1⟩ h2 ?_
  exact (Below.refl _ _).grown h2 hlo (fun k hk => (hown.lt k hk).1)
/-- The same as one step of a region that draws. -/
theorem step_append_ints {ops : Array Oper} {o : Oper} {a : Act} {w : World} {K : Act → World → Prop} {Q : Exit → Act → World → Prop} {E : Prop} (hgd : o.guard = none) (s x : Operand)
    (ho : o.op = .call { callee := .builtin .append, args := #[s, x], argTypes := #[24, 24] }) {lo : Nat} {v : Value} {L M : List Int} {ad : Addr} {m c : Nat} (hs : a.eval s = v) (hown : Own w lo v L)
    (hx : a.eval x = .slice (some ad) m c) (hm : M.length = m) (hc : ∀ j u, (ints M)[j]? = some u → w.cell? (ad.add j) = some u) (hlen : L.length + m ≤ 1099511627776) (hlo : lo ≤ w.heap.size)
    (h : ∀ v' w', Own w' lo v' (L ++ M) → w.grownBy w' v.ownBlock → Below lo w w' → K (a.put o.dst v') w') : if Region.wanted o (yielded ops a.tmps) = true then Oper.wp Try.prog o a w K Q else E := by
  have hw : Region.wanted o (yielded ops a.tmps) = true := by simp [Region.wanted, hgd]
  rw [if_pos hw]
  obtain ⟨i0, hi, hz0, hz1, hz2⟩ := info_parts info64
  subst hm
  refine wp_append_own _ s x 24 ho lo 2 i0 (.int .i64 0) 1 8 Try.underlying24 hi hz0 hz1 hz2 rfl (by decide) v L.length (L.map (.int .i64)) hs hown.2 ad M.length c (ints M) hx (by simp [ints]) hc (by intro u hu; obtain ⟨y, _, rfl⟩ := List.mem_map.1 hu; rfl) (by unfold maxLen; omega) (by omega) hlo ?_
  intro v' w' h1 h2 _
  refine h v' w' ⟨by simpa using hlen, by simpa [ints] using h1⟩ h2 ?_
  exact (Below.refl _ _).grown h2 hlo (fun k hk => (hown.lt k hk).1)
/-- The cells of a slice that reads zs, as the law on append asks for them. -/
theorem Reads.news {w : World} {b o cap : Nat} {zs : List Int} (h : Reads w (.slice (some ⟨b, o, none⟩) zs.length cap) zs) : ∀ j u, (ints zs)[j]? = some u → w.cell? ((⟨b, o, none⟩ : Addr).add j) = some u := by
  intro j u hu
  have hj : j < zs.length := by
    apply Decidable.byContradiction; intro hh
    rw [ints, List.getElem?_map, List.getElem?_eq_none (by omega)] at hu; cases hu
  obtain ⟨_, a, cap', hv, _, _, hc⟩ := h
  injection hv with e1 _ _
  subst e1
  obtain ⟨b', o', e, _, hcc⟩ := hc (by omega)
  injection e with e
  injection e with e2 e3 _
  subst e2 e3
  rw [Addr.add_lit, hcc j hj]
  rw [ints, List.getElem?_map, el_get hj] at hu
  simpa using hu

set_option maxHeartbeats 1000000 in
theorem l01Own_any {b o cap m : Nat} {zs : List Int} {w : World} (hm : zs.length = m) (h : Reads w (.slice (some ⟨b, o, none⟩) m cap) zs) :
    Calls Try.prog 22 #[.slice (some ⟨b, o, none⟩) m cap] w (RetInts zs w) := by
  subst hm
  have HL := Lib.hid h.1
  have HC := Lib.hid (h.step (below_box (.cells #[] 2))).news
  clear h
  go_enter Try.func22, Try.ntmps22
  go_wp2_with (at_builtin; refine append_ints _ rfl _ _ rfl rfl (Own.empty (Nat.le_refl _)) rfl rfl HC.out (by simpa using HL.out) (by simp) ?_)
  intro v' w' h1 h2 h3
  have H1 := Lib.hid (show Own w' w.heap.size v' zs by simpa using h1)
  have H3 := Lib.hid (show Below w.heap.size w w' from (below_box _).trans h3)
  clear h1 h2 h3
  go_wp2
  go_ret
  exact ⟨_, rfl, H1.out, H3.out⟩

theorem Own.news {w : World} {lo g n cap : Nat} {zs : List Int} (h : Own w lo (.slice (some ⟨g, 0, none⟩) n cap) zs) (k : Nat) : ∀ j u, (ints (zs.drop k))[j]? = some u → w.cell? ((⟨g, k, none⟩ : Addr).add j) = some u := by
  intro j u hu
  have hj : k + j < zs.length := by
    apply Decidable.byContradiction; intro hh
    rw [ints, List.getElem?_map, List.getElem?_drop, List.getElem?_eq_none (by omega)] at hu; cases hu
  rw [Addr.add_lit, h.cellAt hj]
  rw [ints, List.getElem?_map, List.getElem?_drop, el_get hj] at hu
  simpa using hu
theorem news_none {w : World} {ad : Addr} {zs : List Int} {k : Nat} (h : zs.length ≤ k) : ∀ j u, (ints (zs.drop k))[j]? = some u → w.cell? (ad.add j) = some u := by
  intro j u hu
  rw [ints, List.getElem?_map, List.getElem?_drop, List.getElem?_eq_none (by omega)] at hu; cases hu
theorem below_drew {w : World} : Below w.heap.size w w.drew := (Below.refl _ _).drew
end Go.Proofs.Ytdkppikbneijaaa
