/- Contracts of Go's library that the texts need, laid at this program; the program's own texts. -/
import Derived.Test.YtcecmjnbhppocaaDoorSc
import Derived.Shelf.Strings.OnBuilder
import Derived.Shelf.Strings.Replace
import Derived.Shelf.Strconv.Itoa4
namespace Go.Proofs.YtcecmjnbhppocaaDoor
open Go.RowKit Go.Shelf
set_option linter.unusedVariables false
set_option linter.unusedSimpArgs false
set_option maxRecDepth 100000

def Tryd.lays173_ren : Go.Shelf.Ren := ⟨fun | 173 => 55 | 246 => 63 | 283 => 70 | 284 => 71 | 285 => 72 | 286 => 73 | 129 => 81 | 317 => 80 | 318 => 82 | 319 => 83 | 320 => 84 | 337 => 87 | 338 => 88 | n => n, fun | 2 => 2 | 3 => 3 | 9 => 9 | 4 => 4 | 171 => 84 | 0 => 0 | 53 => 85 | 37 => 32 | 5 => 5 | 173 => 88 | 212 => 100 | 51 => 101 | 20 => 20 | 213 => 102 | 46 => 94 | 232 => 108 | 233 => 109 | n => n, fun | 17 => 3 | 18 => 4 | 19 => 5 | n => n⟩
theorem Tryd.lays173 : Go.Proofs.Lays.n173 Tryd.prog Tryd.lays173_ren := {
  mixed := by kernel_rfl
  f129 := Tryd.func81.trans (congrArg some (by kernel_rfl))
  f173 := Tryd.func55.trans (congrArg some (by kernel_rfl))
  f246 := Tryd.func63.trans (congrArg some (by kernel_rfl))
  f283 := Tryd.func70.trans (congrArg some (by kernel_rfl))
  f284 := Tryd.func71.trans (congrArg some (by kernel_rfl))
  f285 := Tryd.func72.trans (congrArg some (by kernel_rfl))
  f286 := Tryd.func73.trans (congrArg some (by kernel_rfl))
  f317 := Tryd.func80.trans (congrArg some (by kernel_rfl))
  f318 := Tryd.func82.trans (congrArg some (by kernel_rfl))
  f319 := Tryd.func83.trans (congrArg some (by kernel_rfl))
  f320 := Tryd.func84.trans (congrArg some (by kernel_rfl))
  f337 := Tryd.func87.trans (congrArg some (by kernel_rfl))
  f338 := Tryd.func88.trans (congrArg some (by kernel_rfl))
  t0 := Tryd.underlying0
  a0 := Tryd.isAgg0
  z0 := Tryd.sizeOf0
  v0 := Tryd.zeroValue0
  t2 := Tryd.underlying2
  a2 := Tryd.isAgg2
  z2 := Tryd.sizeOf2
  v2 := Tryd.zeroValue2
  t3 := Tryd.underlying3
  a3 := Tryd.isAgg3
  z3 := Tryd.sizeOf3
  v3 := Tryd.zeroValue3
  t4 := Tryd.underlying4
  a4 := Tryd.isAgg4
  z4 := Tryd.sizeOf4
  v4 := Tryd.zeroValue4
  t5 := Tryd.underlying5
  a5 := Tryd.isAgg5
  z5 := Tryd.sizeOf5
  v5 := Tryd.zeroValue5
  t9 := Tryd.underlying9
  a9 := Tryd.isAgg9
  z9 := Tryd.sizeOf9
  v9 := Tryd.zeroValue9
  t20 := Tryd.underlying20
  a20 := Tryd.isAgg20
  z20 := Tryd.sizeOf20
  v20 := Tryd.zeroValue20
  t37 := Tryd.underlying32
  a37 := Tryd.isAgg32
  z37 := Tryd.sizeOf32
  v37 := Tryd.zeroValue32
  t46 := Tryd.underlying94
  a46 := Tryd.isAgg94
  z46 := Tryd.sizeOf94
  v46 := Tryd.zeroValue94
  t51 := Tryd.underlying101
  a51 := Tryd.isAgg101
  z51 := Tryd.sizeOf101
  v51 := Tryd.zeroValue101
  t53 := Tryd.underlying85
  a53 := Tryd.isAgg85
  z53 := Tryd.sizeOf85
  v53 := Tryd.zeroValue85
  t171 := Tryd.underlying84
  a171 := Tryd.isAgg84
  z171 := Tryd.sizeOf84
  v171 := Tryd.zeroValue84
  t173 := Tryd.underlying88
  a173 := Tryd.isAgg88
  z173 := Tryd.sizeOf88
  v173 := Tryd.zeroValue88
  t212 := Tryd.underlying100
  a212 := Tryd.isAgg100
  z212 := Tryd.sizeOf100
  v212 := Tryd.zeroValue100
  t213 := Tryd.underlying102
  a213 := Tryd.isAgg102
  z213 := Tryd.sizeOf102
  t232 := Tryd.underlying108
  a232 := Tryd.isAgg108
  z232 := Tryd.sizeOf108
  v232 := Tryd.zeroValue108
  t233 := Tryd.underlying109
  a233 := Tryd.isAgg109
  z233 := Tryd.sizeOf109
  v233 := Tryd.zeroValue109
  g17 := by kernel_rfl
  g18 := by kernel_rfl
  g19 := by kernel_rfl }
def Tryd.lays156_ren : Go.Shelf.Ren := ⟨fun | 156 => 54 | 165 => 58 | 166 => 60 | 169 => 62 | 240 => 66 | 241 => 67 | 276 => 74 | 277 => 75 | n => n, fun | 31 => 37 | 9 => 9 | 3 => 3 | 4 => 4 | 0 => 0 | 20 => 20 | 72 => 71 | 76 => 75 | 70 => 69 | 37 => 32 | 75 => 74 | 127 => 82 | 164 => 90 | 5 => 5 | 80 => 79 | n => n, fun | n => n⟩
theorem Tryd.lays156 : Go.Proofs.Lays.n156 Tryd.prog Tryd.lays156_ren := {
  mixed := by kernel_rfl
  f156 := Tryd.func54.trans (congrArg some (by kernel_rfl))
  f165 := Tryd.func58.trans (congrArg some (by kernel_rfl))
  f166 := Tryd.func60.trans (congrArg some (by kernel_rfl))
  f169 := Tryd.func62.trans (congrArg some (by kernel_rfl))
  f240 := Tryd.func66.trans (congrArg some (by kernel_rfl))
  f241 := Tryd.func67.trans (congrArg some (by kernel_rfl))
  f276 := Tryd.func74.trans (congrArg some (by kernel_rfl))
  f277 := Tryd.func75.trans (congrArg some (by kernel_rfl))
  t0 := Tryd.underlying0
  a0 := Tryd.isAgg0
  z0 := Tryd.sizeOf0
  v0 := Tryd.zeroValue0
  t3 := Tryd.underlying3
  a3 := Tryd.isAgg3
  z3 := Tryd.sizeOf3
  v3 := Tryd.zeroValue3
  t4 := Tryd.underlying4
  a4 := Tryd.isAgg4
  z4 := Tryd.sizeOf4
  v4 := Tryd.zeroValue4
  t9 := Tryd.underlying9
  a9 := Tryd.isAgg9
  z9 := Tryd.sizeOf9
  v9 := Tryd.zeroValue9
  t20 := Tryd.underlying20
  a20 := Tryd.isAgg20
  z20 := Tryd.sizeOf20
  v20 := Tryd.zeroValue20
  t31 := Tryd.underlying37
  a31 := Tryd.isAgg37
  z31 := Tryd.sizeOf37
  v31 := Tryd.zeroValue37
  t37 := Tryd.underlying32
  a37 := Tryd.isAgg32
  z37 := Tryd.sizeOf32
  v37 := Tryd.zeroValue32
  t70 := Tryd.underlying69
  a70 := Tryd.isAgg69
  z70 := Tryd.sizeOf69
  v70 := Tryd.zeroValue69
  t72 := Tryd.underlying71
  a72 := Tryd.isAgg71
  z72 := Tryd.sizeOf71
  v72 := Tryd.zeroValue71
  t75 := Tryd.underlying74
  a75 := Tryd.isAgg74
  z75 := Tryd.sizeOf74
  v75 := Tryd.zeroValue74
  t76 := Tryd.underlying75
  a76 := Tryd.isAgg75
  z76 := Tryd.sizeOf75
  v76 := Tryd.zeroValue75
  t127 := Tryd.underlying82
  a127 := Tryd.isAgg82
  z127 := Tryd.sizeOf82
  v127 := Tryd.zeroValue82
  t164 := Tryd.underlying90
  a164 := Tryd.isAgg90
  z164 := Tryd.sizeOf90
  v164 := Tryd.zeroValue90 }
theorem Tryd.extra156 : Builder.Extra Tryd.prog Tryd.lays156_ren := {
  sizeBuilder := by kernel_rfl
  liesBuilder := by kernel_rfl
  t5 := Tryd.underlying5
  a5 := Tryd.isAgg5
  z5 := Tryd.sizeOf5
  v5 := Tryd.zeroValue5
  infoByte := by kernel_rfl
  cellsByte := by kernel_rfl
  sizeByte := by kernel_rfl
  neB5 := by decide }
def Tryd.lays155_ren : Go.Shelf.Ren := ⟨fun | 155 => 42 | 154 => 53 | 138 => 57 | 165 => 58 | 143 => 59 | 166 => 60 | 197 => 61 | 169 => 62 | 195 => 64 | 218 => 65 | 240 => 66 | 241 => 67 | 219 => 68 | 260 => 69 | 276 => 74 | 277 => 75 | 217 => 76 | 225 => 77 | 224 => 78 | 267 => 79 | 266 => 85 | 314 => 86 | n => n, fun | 9 => 9 | 3 => 3 | 4 => 4 | 72 => 71 | 0 => 0 | 76 => 75 | 105 => 77 | 21 => 21 | 5 => 5 | 70 => 69 | 20 => 20 | 37 => 32 | 75 => 74 | 127 => 82 | 164 => 90 | 46 => 94 | 119 => 95 | 139 => 98 | 138 => 97 | 146 => 105 | 51 => 101 | 80 => 79 | n => n, fun | 1 => 0 | 3 => 1 | 4 => 2 | n => n⟩
theorem Tryd.lays155 : Go.Proofs.Lays.n155 Tryd.prog Tryd.lays155_ren := {
  mixed := by kernel_rfl
  f138 := Tryd.func57.trans (congrArg some (by kernel_rfl))
  f143 := Tryd.func59.trans (congrArg some (by kernel_rfl))
  f154 := Tryd.func53.trans (congrArg some (by kernel_rfl))
  f155 := Tryd.func42.trans (congrArg some (by kernel_rfl))
  f165 := Tryd.func58.trans (congrArg some (by kernel_rfl))
  f166 := Tryd.func60.trans (congrArg some (by kernel_rfl))
  f169 := Tryd.func62.trans (congrArg some (by kernel_rfl))
  f195 := Tryd.func64.trans (congrArg some (by kernel_rfl))
  f197 := Tryd.func61.trans (congrArg some (by kernel_rfl))
  f217 := Tryd.func76.trans (congrArg some (by kernel_rfl))
  f218 := Tryd.func65.trans (congrArg some (by kernel_rfl))
  f219 := Tryd.func68.trans (congrArg some (by kernel_rfl))
  f224 := Tryd.func78.trans (congrArg some (by kernel_rfl))
  f225 := Tryd.func77.trans (congrArg some (by kernel_rfl))
  f240 := Tryd.func66.trans (congrArg some (by kernel_rfl))
  f241 := Tryd.func67.trans (congrArg some (by kernel_rfl))
  f260 := Tryd.func69.trans (congrArg some (by kernel_rfl))
  f266 := Tryd.func85.trans (congrArg some (by kernel_rfl))
  f267 := Tryd.func79.trans (congrArg some (by kernel_rfl))
  f276 := Tryd.func74.trans (congrArg some (by kernel_rfl))
  f277 := Tryd.func75.trans (congrArg some (by kernel_rfl))
  f314 := Tryd.func86.trans (congrArg some (by kernel_rfl))
  t0 := Tryd.underlying0
  a0 := Tryd.isAgg0
  z0 := Tryd.sizeOf0
  v0 := Tryd.zeroValue0
  t3 := Tryd.underlying3
  a3 := Tryd.isAgg3
  z3 := Tryd.sizeOf3
  v3 := Tryd.zeroValue3
  t4 := Tryd.underlying4
  a4 := Tryd.isAgg4
  z4 := Tryd.sizeOf4
  v4 := Tryd.zeroValue4
  t5 := Tryd.underlying5
  a5 := Tryd.isAgg5
  z5 := Tryd.sizeOf5
  v5 := Tryd.zeroValue5
  t9 := Tryd.underlying9
  a9 := Tryd.isAgg9
  z9 := Tryd.sizeOf9
  v9 := Tryd.zeroValue9
  t20 := Tryd.underlying20
  a20 := Tryd.isAgg20
  z20 := Tryd.sizeOf20
  v20 := Tryd.zeroValue20
  t21 := Tryd.underlying21
  a21 := Tryd.isAgg21
  z21 := Tryd.sizeOf21
  v21 := Tryd.zeroValue21
  t37 := Tryd.underlying32
  a37 := Tryd.isAgg32
  z37 := Tryd.sizeOf32
  v37 := Tryd.zeroValue32
  t46 := Tryd.underlying94
  a46 := Tryd.isAgg94
  z46 := Tryd.sizeOf94
  v46 := Tryd.zeroValue94
  t51 := Tryd.underlying101
  a51 := Tryd.isAgg101
  z51 := Tryd.sizeOf101
  v51 := Tryd.zeroValue101
  t70 := Tryd.underlying69
  a70 := Tryd.isAgg69
  z70 := Tryd.sizeOf69
  v70 := Tryd.zeroValue69
  t72 := Tryd.underlying71
  a72 := Tryd.isAgg71
  z72 := Tryd.sizeOf71
  v72 := Tryd.zeroValue71
  t75 := Tryd.underlying74
  a75 := Tryd.isAgg74
  z75 := Tryd.sizeOf74
  v75 := Tryd.zeroValue74
  t76 := Tryd.underlying75
  a76 := Tryd.isAgg75
  z76 := Tryd.sizeOf75
  v76 := Tryd.zeroValue75
  t105 := Tryd.underlying77
  a105 := Tryd.isAgg77
  z105 := Tryd.sizeOf77
  v105 := Tryd.zeroValue77
  t119 := Tryd.underlying95
  a119 := Tryd.isAgg95
  z119 := Tryd.sizeOf95
  t127 := Tryd.underlying82
  a127 := Tryd.isAgg82
  z127 := Tryd.sizeOf82
  v127 := Tryd.zeroValue82
  t138 := Tryd.underlying97
  a138 := Tryd.isAgg97
  z138 := Tryd.sizeOf97
  v138 := Tryd.zeroValue97
  t139 := Tryd.underlying98
  a139 := Tryd.isAgg98
  z139 := Tryd.sizeOf98
  v139 := Tryd.zeroValue98
  t146 := Tryd.underlying105
  a146 := Tryd.isAgg105
  z146 := Tryd.sizeOf105
  v146 := Tryd.zeroValue105
  t164 := Tryd.underlying90
  a164 := Tryd.isAgg90
  z164 := Tryd.sizeOf90
  v164 := Tryd.zeroValue90
  g1 := by kernel_rfl
  g3 := by kernel_rfl
  g4 := by kernel_rfl }
theorem Tryd.extra155 : Builder.Extra Tryd.prog Tryd.lays155_ren := {
  sizeBuilder := by kernel_rfl
  liesBuilder := by kernel_rfl
  t5 := Tryd.underlying5
  a5 := Tryd.isAgg5
  z5 := Tryd.sizeOf5
  v5 := Tryd.zeroValue5
  infoByte := by kernel_rfl
  cellsByte := by kernel_rfl
  sizeByte := by kernel_rfl
  neB5 := by decide }

theorem formatInt_small {n : Int} (h : 0 ≤ n ∧ n ≤ 9) (w : World) :
    Calls Tryd.prog 55 #[.int .i64 n, .int .i64 10] w fun e w' => e = .returned (.string (bs (dg n))) ∧ w' = w := by
  obtain ⟨i, rfl⟩ : ∃ i : Nat, n = i := ⟨n.toNat, by omega⟩
  have := Any.strconv_FormatInt_10_small Tryd.lays173 i (by omega) w
  have e : Lib.decDigits i = dg (i : Int) := by
    have hi : i = 0 ∨ i = 1 ∨ i = 2 ∨ i = 3 ∨ i = 4 ∨ i = 5 ∨ i = 6 ∨ i = 7 ∨ i = 8 ∨ i = 9 := by omega
    rcases hi with rfl | rfl | rfl | rfl | rfl | rfl | rfl | rfl | rfl | rfl <;> (unfold Lib.decDigits; simp [dg])
  rw [e] at this
  exact this
theorem strings_Join_own {bk o c : Nat} {xs : List ByteArray} {w : World} (hcells : ∀ (j : Nat) x, xs[j]? = some x → w.cell? ⟨bk, o + j, none⟩ = some (.string x)) (hbk : bk < w.heap.size) (hN : xs.length ≤ 1000) (hcap : xs.length ≤ c) (hlen : (Lib.join (xs.map (·.data.toList)) [44]).length ≤ 100000) :
    Calls Tryd.prog 54 #[.slice (some ⟨bk, o, none⟩) xs.length c, .string (bs [44])] w fun e w' => e = .returned (.string (bs (Lib.join (xs.map (·.data.toList)) [44]))) ∧ Below w.heap.size w w' :=
  Any.strings_Join Tryd.lays156 Tryd.extra156 bk o c xs (bs [44]) w hcells hbk (by omega) hcap (by show (Lib.join (xs.map (·.data.toList)) [44]).length ≤ _; omega)
theorem replaceAll_own {l : List UInt8} {m : Int} {w : World} (hm : w.cell? ⟨0, 0, none⟩ = some (.int .i64 m)) (hl : l.length ≤ 100000) :
    Calls Tryd.prog 42 #[.string (bs l), .string (bs [44]), .string (bs [32])] w fun e w' => e = .returned (.string (bs (Lib.replaceAll l [44] [32]))) ∧ Below w.heap.size w w' := by
  have hc := Lib.countB_mul_le (bs [44]) (by decide) l.length (bs l) (by rw [bs_size]; exact Nat.le_refl _)
  have hs := bs_size l
  have h1 : (bs [44]).size = 1 := rfl
  have h2 : (bs [32]).size = 1 := rfl
  rw [h1, hs] at hc
  have := Any.strings_ReplaceAll Tryd.lays155 Tryd.extra155 (bs l) (bs [44]) (bs [32]) m w (by rw [hs]; omega) hm (by decide) (by rw [hs, h2]; omega)
  exact this

/-! ### commas, then blanks: plain -/
def comB (L : List Int) : List UInt8 := Lib.join (L.map dg) [44]
theorem dg_ne {n : Int} (h : 0 ≤ n ∧ n ≤ 9) : UInt8.ofNat (48 + n.toNat) ≠ 44 := by
  intro e
  have := congrArg UInt8.toNat e
  rw [UInt8.toNat_ofNat'] at this
  have h2 : (44 : UInt8).toNat = 44 := rfl
  omega
/-- Each comma is a blank now. -/
def sub44 (l : List UInt8) : List UInt8 := l.map fun b => if b = 44 then 32 else b
theorem replaceK_sub : ∀ (l : List UInt8) (k : Nat), Lib.count l [44] = k → Lib.replaceK [44] [32] k l = sub44 l
  | [], k, h => by
    have : Lib.count [] [44] = 0 := Lib.count_miss (by simp [Lib.index])
    obtain rfl : k = 0 := by omega
    rfl
  | b :: l, k, h => by
    by_cases hb : b = 44
    · subst hb
      rw [Lib.count_cons_eq] at h
      obtain ⟨k', rfl⟩ : ∃ k', k = k' + 1 := ⟨k - 1, by omega⟩
      have hix : Lib.index (44 :: l) [44] = ((0 : Nat) : Int) := by rw [Lib.index]; simp [List.isPrefixOf]
      rw [Lib.replaceK_hit _ _ _ _ 0 hix]
      have ih := replaceK_sub l k' (by omega)
      simp [sub44] at ih ⊢
      exact ih
    · rw [Lib.count_cons_ne b 44 l hb] at h
      have ih := replaceK_sub l k h
      have hs : sub44 (b :: l) = b :: sub44 l := by simp [sub44, hb]
      rw [hs, ← ih]
      cases k with
      | zero => rfl
      | succ k' =>
        obtain ⟨i, hi⟩ := Lib.index_of_count (s := l) (old := [44]) (by omega)
        have hp : ([44] : List UInt8).isPrefixOf (b :: l) = false := by simp [List.isPrefixOf, Ne.symm hb]
        have hix : Lib.index (b :: l) [44] = ((i + 1 : Nat) : Int) := by
          rw [Lib.index, hp, hi]
          have : ¬ ((i : Int) == -1) = true := by simp
          rw [if_neg (by simp), if_neg this]; omega
        rw [Lib.replaceK_hit _ _ _ _ _ hix, Lib.replaceK_hit _ _ _ _ _ hi]
        simp [show i + 1 + 1 = i + 1 + 1 from rfl]
theorem jn_flat (L : List Int) : ∀ k, jnN L (k + 1) = dg (el L 0) ++ ((List.range k).map fun j => 32 :: dg (el L (j + 1))).flatten
  | 0 => by simp [jnN]
  | k + 1 => by
    rw [jnN, if_pos (by omega), jn_flat L k, List.range_succ]
    simp
theorem com_jn {L : List Int} (hp : 0 < L.length) (hd : ∀ k, k < L.length → 0 ≤ el L k ∧ el L k ≤ 9) : Lib.replaceAll (comB L) [44] [32] = jnN L L.length := by
  have h1 : Lib.replaceAll (comB L) [44] [32] = sub44 (comB L) := by
    unfold Lib.replaceAll Lib.replace
    rw [if_neg (by decide)]
    refine replaceK_sub _ _ ?_
    unfold Lib.replaceNum
    rw [if_pos (.inl (by omega))]
  rw [h1]
  cases L with
  | nil => simp at hp
  | cons a r =>
    have hdg : ∀ x, 0 ≤ x ∧ x ≤ 9 → sub44 (dg x) = dg x := fun x hx => by
      show [if UInt8.ofNat (48 + x.toNat) = 44 then 32 else UInt8.ofNat (48 + x.toNat)] = _
      rw [if_neg (dg_ne hx)]
      rfl
    have ha := hd 0 (by simp)
    have hr : ∀ x ∈ r, 0 ≤ x ∧ x ≤ 9 := fun x hx => by
      obtain ⟨k, hk, e⟩ := mem_el (List.mem_cons_of_mem a hx)
      rw [← e]; exact hd k hk
    have e0 : el (a :: r) 0 = a := rfl
    rw [e0] at ha
    rw [List.length_cons, jn_flat, e0, comB, List.map_cons, Lib.join_cons]
    have hs : ∀ x y : List UInt8, sub44 (x ++ y) = sub44 x ++ sub44 y := fun x y => by simp [sub44]
    rw [hs, hdg a ha]
    congr 1
    have hf : ∀ r : List Int, (∀ x ∈ r, 0 ≤ x ∧ x ≤ 9) → sub44 (Lib.joinTail [44] (r.map dg)) = (r.map fun x => 32 :: dg x).flatten := by
      intro r
      induction r with
      | nil => intro _; rfl
      | cons x r ih =>
        intro hx
        have i2 := ih (fun y hy => hx y (List.mem_cons_of_mem _ hy))
        unfold Lib.joinTail at i2 ⊢
        simp only [List.map_cons, List.flatten_cons, hs]
        rw [i2, hdg x (hx x (by simp))]
        rfl
    rw [hf r hr]
    congr 1
    apply List.ext_getElem?
    intro i
    rw [List.getElem?_map, List.getElem?_map]
    by_cases hi : i < r.length
    · rw [List.getElem?_range hi, List.getElem?_eq_getElem hi]
      simp [el, List.getD_eq_getElem?_getD, List.getElem?_eq_getElem hi]
    · rw [List.getElem?_eq_none (by omega), List.getElem?_eq_none (by simp; omega)]
      rfl

/-! ### the program's own texts -/
theorem decimal_small {n : Int} (h : 0 ≤ n ∧ n ≤ 9) (w : World) :
    Calls Tryd.prog 44 #[.int .i64 n] w fun e w' => e = .returned (.string (bs (dg n))) ∧ w = w' := by
  have hd := Lib.hid (fun w => formatInt_small h w)
  clear h
  go_enter Tryd.func44, Tryd.ntmps44
  go_wp2_with (go_at_call 55; with_reducible refine (hd.out _).mono ?_)
  rintro _ w1 ⟨rfl, rfl⟩
  go_wp2
  go_ret
  exact ⟨rfl, rfl⟩
theorem infoStr : (Tryd.prog.info? 9).map (fun i => (i.zero, i.size, i.bytes)) = some (some (.string ⟨#[]⟩), 1, 16) := by kernel_rfl
def wds (L : List Int) : List Value := L.map fun x => .string (bs (dg x))
theorem wds_next {L : List Int} {k : Nat} (h : k < L.length) : wds (L.take k) ++ [.string (bs (dg (el L k)))] = wds (L.take (k + 1)) := by
  rw [List.take_add_one, el_get h]
  simp [wds]
theorem comB_len (L : List Int) (h : 0 < L.length) : (comB L).length ≤ 2 * L.length := by
  cases L with
  | nil => simp at h
  | cons a r =>
    rw [comB, List.map_cons, Lib.join_length]
    have : ∀ r : List Int, Lib.lens (r.map dg) = r.length := by
      intro r
      induction r with
      | nil => rfl
      | cons x r ih => simp [Lib.lens, dg] at ih ⊢; omega
    have h2 := this (a :: r)
    rw [List.map_cons] at h2
    rw [h2]
    simp; omega
set_option maxHeartbeats 2000000 in
theorem commas_small {v : Value} {L : List Int} {w : World} (h : Reads w v L) (h0 : 0 < L.length) (hl : L.length ≤ 1000) (hd : ∀ k, k < L.length → 0 ≤ el L k ∧ el L k ≤ 9) :
    Calls Tryd.prog 43 #[v] w fun e w' => e = .returned (.string (bs (comB L))) ∧ Below w.heap.size w w' := by
  have HR := Lib.hid h
  obtain ⟨hL, a, cap, rfl, hcap, hmax, hcell⟩ := h
  obtain ⟨n, hn⟩ : ∃ n, L.length = n := ⟨_, rfl⟩
  rw [hn] at hl hcap hcell hd h0 HR ⊢
  have HC := Lib.hid hcell
  have HD := Lib.hid hd
  have HN := Lib.hid hn
  have HCL := Lib.hid (comB_len L (by rw [hn]; exact h0))
  clear hcell hd hn hL
  go_enter Tryd.func43, Tryd.ntmps43
  rw [bs_44]
  go_wp2
  go_loopw [8, 3] (fun c d wr => ∃ k : Nat, c = .int .i64 (k : Int) ∧ k ≤ n ∧ OwnV 9 wr w.heap.size d (wds (L.take k)) ∧ Below w.heap.size w wr) (fun c _ _ => n - (intOf c).toNat)
  case atStart => exact ⟨0, rfl, by omega, ⟨by simp [wds], World.ownsRow_nil _ _ _ _⟩, Below.refl _ _⟩
  case round =>
    obtain ⟨k, rfl, hk, hown, hbel⟩ := hrel
    have HO := Lib.hid hown
    have HW := Lib.hid hbel
    have hsw := hbel.size
    clear hown hbel
    by_cases hlt : k < n
    · obtain ⟨b, o, rfl, hb, hc⟩ := HC.out (by omega)
      have f1 := (HW.out.cell (p := ⟨b, o + k, none⟩) hb).trans (hc k hlt)
      have HDK := Lib.hid (HD.out k hlt)
      have HX := Lib.hid (wds_next (L := L) (k := k) (by rw [HN.out]; exact hlt))
      generalize el L k = x at *
      clear hc
      have hwl : (wds (L.take k)).length + 1 ≤ 1099511627776 := by simp [wds]; omega
      go_wp2_with (first | (go_at_call 44; ((with_reducible refine (decimal_small HDK.out _).mono ?_); rintro e w' ⟨rfl, rfl⟩)) | (at_builtin; refine append_oneV infoStr Tryd.underlying37 rfl (by omega) _ rfl _ _ rfl rfl HO.out hwl hsw rfl rfl rfl ?_))
      intro vv w5 hown5 hg5 hbel5
      rw [HX.out] at hown5
      have HO5 := Lib.hid hown5
      have HW5 := Lib.hid (HW.out.trans hbel5)
      clear hown5 hg5 hbel5
      go_wp2
      go_roundw
      case rel => exact ⟨k + 1, by go_num, by omega, HO5.out, HW5.out⟩
      case measure => simp [intOf]; omega
    · obtain rfl : k = n := by omega
      have hfull : L.take k = L := List.take_of_length_le (by rw [HN.out]; exact Nat.le_refl _)
      have hown := HO.out
      rw [hfull] at hown
      obtain ⟨a7, c7, e7, q1, q2, q3⟩ := hown.shape
      have hwl : (wds L).length = k := by simp [wds, HN.out]
      rw [hwl] at e7 q1 q3
      obtain ⟨g, rfl⟩ := q3 h0
      subst e7
      have hgs := (hown.lt g rfl).2
      have hxs : (L.map fun x => bs (dg x)).length = k := by simp [HN.out]
      have hcells : ∀ (j : Nat) x, (L.map fun x => bs (dg x))[j]? = some x → wr.cell? ⟨g, 0 + j, none⟩ = some (.string x) := fun j x hx => by
        rw [Nat.zero_add]
        refine hown.cellAt ?_
        rw [List.getElem?_map] at hx
        simp only [wds, List.getElem?_map]
        cases hj : L[j]? with
        | none => rw [hj] at hx; cases hx
        | some y => rw [hj] at hx; simp at hx ⊢; exact hx
      have hmap : (L.map fun x => bs (dg x)).map (·.data.toList) = L.map dg := by simp [bs]
      have HJ := Lib.hid (strings_Join_own (c := c7) (xs := L.map fun x => bs (dg x)) hcells hgs (by rw [hxs]; omega) (by rw [hxs]; exact q1) (by rw [hmap]; have := HCL.out; unfold comB at this; rw [HN.out] at this; omega))
      rw [hmap, hxs] at HJ
      clear hown hcells hxs hmap hwl
      go_wp2_with (go_at_call 54; with_reducible refine HJ.out.mono ?_)
      rintro _ w2 ⟨rfl, hb2⟩
      go_wp2
      go_ret
      exact ⟨rfl, HW.out.trans (hb2.mono hsw)⟩

end Go.Proofs.YtcecmjnbhppocaaDoor
