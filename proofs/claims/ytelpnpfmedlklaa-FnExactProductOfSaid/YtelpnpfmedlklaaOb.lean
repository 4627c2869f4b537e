/- Contracts: copies of slices, zeros cut off, tests on polynomials. -/
import Derived.Test.YtelpnpfmedlklaaOa
import Derived.Test.YtelpnpfmedlklaaB
import Derived.LoopTactic
namespace Go.Proofs.Ytelpnpfmedlklaa
open Go.RowKit
set_option linter.unusedVariables false
set_option linter.unusedSimpArgs false

/-- An append of a nil slice. -/
theorem run_append_none {w : World} {lo : Nat} {v : Value} {L : List Int} (hown : Own w lo v L) (ty : TypeId) (c : Nat) :
    (Builtin.append_ #[24, 24] ty #[v, .slice none 0 c]).run Try.prog w = .ok v w := by
  obtain ⟨i0, hi, hz0, hz1, hz2⟩ := info_parts info64
  have ht : Try.prog.underlying 24 = some (.slice 2) := Try.underlying24
  rcases hown.2.2 with ⟨rfl, h2⟩ | ⟨g, cap, cur, rfl, hg, hh, hc, hm, hs, htk⟩
  · simp [Builtin.append_, run_underlying ht, sizeOf, typeInfo, hi, Builtin.lenOf, Builtin.firstCells]
  · simp [Builtin.append_, run_underlying ht, sizeOf, typeInfo, hi, Builtin.lenOf, Builtin.firstCells, hc, storeCells]
theorem cells_of {w : World} {b o n cap : Nat} {zs : List Int} (h : Reads w (.slice (some ⟨b, o, none⟩) n cap) zs) : ∀ j u, (zs.map (Value.int .i64))[j]? = some u → w.cell? ((⟨b, o, none⟩ : Addr).add j) = some u := by
  intro j u hu
  have hj : j < zs.length := by
    apply Decidable.byContradiction; intro hh
    rw [List.getElem?_map, List.getElem?_eq_none (by omega)] at hu; cases hu
  obtain ⟨_, a, cap', hv, _, _, hc⟩ := h
  injection hv with e1 _ _
  subst e1
  obtain ⟨b', o', e, _, hcc⟩ := hc (by omega)
  injection e with e
  injection e with e2 e3 _
  subst e2 e3
  rw [Addr.add_lit, hcc j hj]
  rw [List.getElem?_map, el_get hj] at hu
  simpa using hu
/-- 'append(out, xs...)': out a slice of the call's own, xs any slice. -/
theorem append_reads {ops : Array Oper} {rest : List Oper} {o : Oper} {a : Act} {Q : Exit → Act → World → Prop} (wr : World) (hgd : o.guard = none) (s x : Operand)
    (ho : o.op = .call { callee := .builtin .append, args := #[s, x], argTypes := #[24, 24] }) {lo : Nat} {v u : Value} {L M : List Int} (hs : a.eval s = v) (hown : Own wr lo v L)
    (hx : a.eval x = u) (hu : Reads wr u M) (hlen : L.length + M.length ≤ 1099511627776) (hlo : lo ≤ wr.heap.size)
    (h : ∀ v' w', Own w' lo v' (L ++ M) → wr.grownBy w' v.ownBlock → Below lo wr w' → wpList Try.prog ops Q rest (a.put o.dst v') w') : wpList Try.prog ops Q (o :: rest) a wr := by
  obtain ⟨i0, hi, hz0, hz1, hz2⟩ := info_parts info64
  obtain ⟨hL, ad, cap, rfl, hcap, hmax, hc⟩ := hu
  by_cases h0 : M.length = 0
  · have hM : M = [] := List.length_eq_zero_iff.1 h0
    subst hM
    cases ad with
    | none =>
      refine wpList_plain hgd fun K hK => ?_
      unfold Oper.wp execOp
      simp only [ho, resolve, invoke, builtin, Sem.run_bind, Sem.run_pure, Result.andThen_ok, List.map_toArray, List.map_cons, List.map_nil, hs, hx, List.length_nil, run_append_none hown]
      refine hK _ _ (h v wr (by simpa using hown) ⟨rfl, rfl, rfl, Nat.le_refl _, fun _ _ _ => rfl⟩ (Below.refl _ _))
    | some ad =>
      refine wpList_append_own _ hgd s x 24 ho lo 2 i0 (.int .i64 0) 1 8 Try.underlying24 hi hz0 hz1 hz2 rfl (by decide) v L.length (L.map (.int .i64)) hs hown.2 ad 0 cap [] hx rfl (by intro j u hu; simp at hu) (by intro u hu; cases hu) (by unfold maxLen; omega) (by omega) hlo ?_
      intro v' w' h1 h2 _
      refine h v' w' ⟨by simpa using hlen, by simpa using h1⟩ h2 ?_
      exact (Below.refl _ _).grown h2 hlo (fun k hk => (hown.lt k hk).1)
  · obtain ⟨b, off, rfl, hb, hcc⟩ := hc (by omega)
    refine wpList_append_own _ hgd s x 24 ho lo 2 i0 (.int .i64 0) 1 8 Try.underlying24 hi hz0 hz1 hz2 rfl (by decide) v L.length (L.map (.int .i64)) hs hown.2 ⟨b, off, none⟩ M.length cap (M.map (.int .i64)) hx (by simp) (cells_of ⟨hL, _, cap, rfl, hcap, hmax, hc⟩) (by intro u hu; obtain ⟨y, _, rfl⟩ := List.mem_map.1 hu; rfl) (by unfold maxLen; omega) (by omega) hlo ?_
    intro v' w' h1 h2 _
    refine h v' w' ⟨by simpa using hlen, by simpa using h1⟩ h2 ?_
    exact (Below.refl _ _).grown h2 hlo (fun k hk => (hown.lt k hk).1)
theorem own_empty {w : World} {lo : Nat} (h : lo ≤ w.heap.size) : Own (w.alloc (.cells #[] 2)) lo (.slice (some ⟨w.heap.size, 0, none⟩) 0 0) [] := by
  refine ⟨by simp, ?_⟩
  exact World.ownsRow_made w #[] 0 h (by decide) rfl

set_option maxHeartbeats 1000000 in
theorem l01Own_reads {v : Value} {zs : List Int} {w : World} (h : Reads w v zs) :
    Calls Try.prog 43 #[v] w (RetInts zs w) := by
  have HR := Lib.hid (h.step (below_box (.cells #[] 2)))
  have hl := h.1
  clear h
  go_enter Try.func43, Try.ntmps43
  go_wp2_with (at_builtin; refine append_reads _ rfl _ _ rfl rfl (own_empty (Nat.le_refl _)) rfl HR.out (by simpa using hl) (by simp) ?_)
  intro v1 w1 h1 h2 h3
  have H1 := Lib.hid (show Own w1 w.heap.size v1 zs by simpa using h1)
  have H3 := Lib.hid (show Below w.heap.size w w1 from (below_box _).trans h3)
  clear h1 h2 h3
  go_wp2
  go_ret
  exact ⟨_, rfl, H1.out, H3.out⟩

theorem reads_nil_eq {w : World} {v : Value} {zs : List Int} (h : Reads w v zs) : ∃ a cap, v = .slice a zs.length cap ∧ zs.length ≤ cap ∧ (a = none → zs = []) := by
  obtain ⟨hL, a, cap, rfl, hcap, hmax, hc⟩ := h
  refine ⟨a, cap, rfl, hcap, fun e => ?_⟩
  subst e
  apply List.length_eq_zero_iff.1
  apply Decidable.byContradiction
  intro h0
  obtain ⟨b, o, e, _⟩ := hc (by omega)
  cases e
set_option maxHeartbeats 1000000 in
theorem Clone_reads {v : Value} {zs : List Int} {w : World} (h : Reads w v zs) :
    Calls Try.prog 44 #[v] w (RetInts zs w) := by
  obtain ⟨a, cap, rfl, h1, h2⟩ := reads_nil_eq h
  have HR := Lib.hid (h.step (below_box (.cells #[] 2)))
  have hl := h.1
  clear h
  have q22 : ∀ (w : World) (a : Option Addr) (n c n' c' : Nat), (binOp .eql 24 (.slice a n c) (.slice none n' c')).run Try.prog w = .ok (.bool a.isNone) w := fun w a n c n' c' => Lib.run_eql_slice_nil w _ _ a n c n' c' Try.underlying24
  cases a with
  | none =>
    have h3 := h2 rfl
    subst h3
    clear h2
    go_enter Try.func44, Try.ntmps44
    go_wp2
    go_ret
    exact ⟨_, rfl, Own.nil, Below.refl _ _⟩
  | some ad =>
    clear h2
    go_enter Try.func44, Try.ntmps44
    go_wp2_with (at_builtin; refine append_reads _ rfl _ _ rfl rfl (own_empty (Nat.le_refl _)) rfl HR.out (by simpa using hl) (by simp) ?_)
    intro v1 w1 h1 h2 h3
    have H1 := Lib.hid (show Own w1 w.heap.size v1 zs by simpa using h1)
    have H3 := Lib.hid (show Below w.heap.size w w1 from (below_box _).trans h3)
    clear h1 h2 h3
    go_wp2
    go_ret
    exact ⟨_, rfl, H1.out, H3.out⟩

end Go.Proofs.Ytelpnpfmedlklaa
