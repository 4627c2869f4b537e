/-
  No cell of these rows narrows 'for every input' (looked for: loops, veiled, ifaces, maps, wideKeys, modest, calm, conditions, laid).
  DERIVED. THE GIVEN ROWS OF THIS SEAT. 9 by the template 'for every input the law returns true; each argument reads behind the call as it read before'; 0 by the template 'total and deterministic' (their statements: YtdgigkbfekbkkaaTotals.lean).
  GIVEN WITH THE SEED: the statements are not yours to turn. If you find one false, say at which input.
  Laid BY PROGRAM, IN A SANDBOX (cutbox-rows.mjs): the forced cells as the released guide's own fill.sh prints them over the translation 62ec43b951b9a0d7… (all of the seat's roots in one cut). By AI agents, Wed Nov 11 2026. No macro, syntax, notation, axiom, sorry.
-/
import Derived.Test.YtdgigkbfekbkkaaChecked
import GoSem.Claim
import GoSem.ClaimJoined
import GoSem.ClaimMapViews
import Derived.JoinedTies
import Derived.KernelRfl
namespace Go.Proofs.Ytdgigkbfekbkkaa
/- THE CELL 'sum', in the pinned program and in every row, IS THE sha256 OF THE DUMP (.gsa) THAT YtdgigkbfekbkkaaProg.lean LOADS. Nothing in Lean hashes anything: it is a label: what it is worth is what the hold of that sum in a sandbox is worth. -/
noncomputable def Try.pinned : Pinned := { name := "ytdgigkbfekbkkaa", sum := "62ec43b951b9a0d70124238b7dc01b3f98a617d43af2d9b1c06a4d13cd0cc3db", checked := Try.checked }
namespace Rows
def none {H : Type} : Left H := { results := [], args := [] }

/-- 'laws.FnExactIsPermutation': WHATEVER THE INPUT: true; the input reads as it did. -/
def fnExactIsPermutationSpec : ChangeSpec := { name := "fnExactIsPermutation", fn := fun _ => fun
  | [d] => { results := [.lit (.bool true)], args := [d] }
  | _ => none }
def fnExactIsPermutationRow : OpenClaim := { program := "ytdgigkbfekbkkaa", sum := "62ec43b951b9a0d70124238b7dc01b3f98a617d43af2d9b1c06a4d13cd0cc3db", func := "loop.example/g01000/laws.FnExactIsPermutation", spec := "fnExactIsPermutation", apart := false }
def FnExactIsPermutationSaid : Prop := fnExactIsPermutationRow.holds Try.pinned (OpenSpec.ofChange fnExactIsPermutationSpec)

/-- ITS FALSE NEIGHBOUR: 'it returns false'. Refute it at one input. -/
def fnExactIsPermutationWrong : ChangeSpec := { name := "fnExactIsPermutation", fn := fun _ => fun
  | [d] => { results := [.lit (.bool false)], args := [d] }
  | _ => none }
def FnExactIsPermutationWrongFalsely : Prop := fnExactIsPermutationRow.holds Try.pinned (OpenSpec.ofChange fnExactIsPermutationWrong)

/-- 'laws.FnExactRankOf': WHATEVER THE INPUT: true; the input reads as it did. -/
def fnExactRankOfSpec : ChangeSpec := { name := "fnExactRankOf", fn := fun _ => fun
  | [d] => { results := [.lit (.bool true)], args := [d] }
  | _ => none }
def fnExactRankOfRow : OpenClaim := { program := "ytdgigkbfekbkkaa", sum := "62ec43b951b9a0d70124238b7dc01b3f98a617d43af2d9b1c06a4d13cd0cc3db", func := "loop.example/g01000/laws.FnExactRankOf", spec := "fnExactRankOf", apart := false }
def FnExactRankOfSaid : Prop := fnExactRankOfRow.holds Try.pinned (OpenSpec.ofChange fnExactRankOfSpec)

/-- ITS FALSE NEIGHBOUR: 'it returns false'. Refute it at one input. -/
def fnExactRankOfWrong : ChangeSpec := { name := "fnExactRankOf", fn := fun _ => fun
  | [d] => { results := [.lit (.bool false)], args := [d] }
  | _ => none }
def FnExactRankOfWrongFalsely : Prop := fnExactRankOfRow.holds Try.pinned (OpenSpec.ofChange fnExactRankOfWrong)

/-- 'laws.FnExactInversePermutation': WHATEVER THE INPUT: true; the input reads as it did. -/
def fnExactInversePermutationSpec : ChangeSpec := { name := "fnExactInversePermutation", fn := fun _ => fun
  | [d] => { results := [.lit (.bool true)], args := [d] }
  | _ => none }
def fnExactInversePermutationRow : OpenClaim := { program := "ytdgigkbfekbkkaa", sum := "62ec43b951b9a0d70124238b7dc01b3f98a617d43af2d9b1c06a4d13cd0cc3db", func := "loop.example/g01000/laws.FnExactInversePermutation", spec := "fnExactInversePermutation", apart := false }
def FnExactInversePermutationSaid : Prop := fnExactInversePermutationRow.holds Try.pinned (OpenSpec.ofChange fnExactInversePermutationSpec)

/-- ITS FALSE NEIGHBOUR: 'it returns false'. Refute it at one input. -/
def fnExactInversePermutationWrong : ChangeSpec := { name := "fnExactInversePermutation", fn := fun _ => fun
  | [d] => { results := [.lit (.bool false)], args := [d] }
  | _ => none }
def FnExactInversePermutationWrongFalsely : Prop := fnExactInversePermutationRow.holds Try.pinned (OpenSpec.ofChange fnExactInversePermutationWrong)

/-- 'laws.FnExactProductOfTwo': WHATEVER THE INPUT: true; the input reads as it did. -/
def fnExactProductOfTwoSpec : ChangeSpec := { name := "fnExactProductOfTwo", fn := fun _ => fun
  | [d1, d2] => { results := [.lit (.bool true)], args := [d1, d2] }
  | _ => none }
def fnExactProductOfTwoRow : OpenClaim := { program := "ytdgigkbfekbkkaa", sum := "62ec43b951b9a0d70124238b7dc01b3f98a617d43af2d9b1c06a4d13cd0cc3db", func := "loop.example/g01000/laws.FnExactProductOfTwo", spec := "fnExactProductOfTwo", apart := false }
def FnExactProductOfTwoSaid : Prop := fnExactProductOfTwoRow.holds Try.pinned (OpenSpec.ofChange fnExactProductOfTwoSpec)

/-- ITS FALSE NEIGHBOUR: 'it returns false'. Refute it at one input. -/
def fnExactProductOfTwoWrong : ChangeSpec := { name := "fnExactProductOfTwo", fn := fun _ => fun
  | [d1, d2] => { results := [.lit (.bool false)], args := [d1, d2] }
  | _ => none }
def FnExactProductOfTwoWrongFalsely : Prop := fnExactProductOfTwoRow.holds Try.pinned (OpenSpec.ofChange fnExactProductOfTwoWrong)

/-- 'laws.FnExactPermutationWith': WHATEVER THE INPUT: true; the input reads as it did. -/
def fnExactPermutationWithSpec : ChangeSpec := { name := "fnExactPermutationWith", fn := fun _ => fun
  | [d1, d2] => { results := [.lit (.bool true)], args := [d1, d2] }
  | _ => none }
def fnExactPermutationWithRow : OpenClaim := { program := "ytdgigkbfekbkkaa", sum := "62ec43b951b9a0d70124238b7dc01b3f98a617d43af2d9b1c06a4d13cd0cc3db", func := "loop.example/g01000/laws.FnExactPermutationWith", spec := "fnExactPermutationWith", apart := false }
def FnExactPermutationWithSaid : Prop := fnExactPermutationWithRow.holds Try.pinned (OpenSpec.ofChange fnExactPermutationWithSpec)

/-- ITS FALSE NEIGHBOUR: 'it returns false'. Refute it at one input. -/
def fnExactPermutationWithWrong : ChangeSpec := { name := "fnExactPermutationWith", fn := fun _ => fun
  | [d1, d2] => { results := [.lit (.bool false)], args := [d1, d2] }
  | _ => none }
def FnExactPermutationWithWrongFalsely : Prop := fnExactPermutationWithRow.holds Try.pinned (OpenSpec.ofChange fnExactPermutationWithWrong)

/-- 'laws.FnExactSignOf': WHATEVER THE INPUT: true; the input reads as it did. -/
def fnExactSignOfSpec : ChangeSpec := { name := "fnExactSignOf", fn := fun _ => fun
  | [d] => { results := [.lit (.bool true)], args := [d] }
  | _ => none }
def fnExactSignOfRow : OpenClaim := { program := "ytdgigkbfekbkkaa", sum := "62ec43b951b9a0d70124238b7dc01b3f98a617d43af2d9b1c06a4d13cd0cc3db", func := "loop.example/g01000/laws.FnExactSignOf", spec := "fnExactSignOf", apart := false }
def FnExactSignOfSaid : Prop := fnExactSignOfRow.holds Try.pinned (OpenSpec.ofChange fnExactSignOfSpec)

/-- ITS FALSE NEIGHBOUR: 'it returns false'. Refute it at one input. -/
def fnExactSignOfWrong : ChangeSpec := { name := "fnExactSignOf", fn := fun _ => fun
  | [d] => { results := [.lit (.bool false)], args := [d] }
  | _ => none }
def FnExactSignOfWrongFalsely : Prop := fnExactSignOfRow.holds Try.pinned (OpenSpec.ofChange fnExactSignOfWrong)

/-- 'laws.FnExactCyclesOf': WHATEVER THE INPUT: true; the input reads as it did. -/
def fnExactCyclesOfSpec : ChangeSpec := { name := "fnExactCyclesOf", fn := fun _ => fun
  | [d] => { results := [.lit (.bool true)], args := [d] }
  | _ => none }
def fnExactCyclesOfRow : OpenClaim := { program := "ytdgigkbfekbkkaa", sum := "62ec43b951b9a0d70124238b7dc01b3f98a617d43af2d9b1c06a4d13cd0cc3db", func := "loop.example/g01000/laws.FnExactCyclesOf", spec := "fnExactCyclesOf", apart := false }
def FnExactCyclesOfSaid : Prop := fnExactCyclesOfRow.holds Try.pinned (OpenSpec.ofChange fnExactCyclesOfSpec)

/-- ITS FALSE NEIGHBOUR: 'it returns false'. Refute it at one input. -/
def fnExactCyclesOfWrong : ChangeSpec := { name := "fnExactCyclesOf", fn := fun _ => fun
  | [d] => { results := [.lit (.bool false)], args := [d] }
  | _ => none }
def FnExactCyclesOfWrongFalsely : Prop := fnExactCyclesOfRow.holds Try.pinned (OpenSpec.ofChange fnExactCyclesOfWrong)

/-- 'laws.FnExactPowerPermutation': WHATEVER THE INPUT: true; the input reads as it did. -/
def fnExactPowerPermutationSpec : ChangeSpec := { name := "fnExactPowerPermutation", fn := fun _ => fun
  | [d1, d2] => { results := [.lit (.bool true)], args := [d1, d2] }
  | _ => none }
def fnExactPowerPermutationRow : OpenClaim := { program := "ytdgigkbfekbkkaa", sum := "62ec43b951b9a0d70124238b7dc01b3f98a617d43af2d9b1c06a4d13cd0cc3db", func := "loop.example/g01000/laws.FnExactPowerPermutation", spec := "fnExactPowerPermutation", apart := false }
def FnExactPowerPermutationSaid : Prop := fnExactPowerPermutationRow.holds Try.pinned (OpenSpec.ofChange fnExactPowerPermutationSpec)

/-- ITS FALSE NEIGHBOUR: 'it returns false'. Refute it at one input. -/
def fnExactPowerPermutationWrong : ChangeSpec := { name := "fnExactPowerPermutation", fn := fun _ => fun
  | [d1, d2] => { results := [.lit (.bool false)], args := [d1, d2] }
  | _ => none }
def FnExactPowerPermutationWrongFalsely : Prop := fnExactPowerPermutationRow.holds Try.pinned (OpenSpec.ofChange fnExactPowerPermutationWrong)

/-- 'laws.FnPermutations': WHATEVER THE INPUT: true; the input reads as it did. -/
def fnPermutationsSpec : ChangeSpec := { name := "fnPermutations", fn := fun _ => fun
  | [d] => { results := [.lit (.bool true)], args := [d] }
  | _ => none }
def fnPermutationsRow : OpenClaim := { program := "ytdgigkbfekbkkaa", sum := "62ec43b951b9a0d70124238b7dc01b3f98a617d43af2d9b1c06a4d13cd0cc3db", func := "loop.example/g01000/laws.FnPermutations", spec := "fnPermutations", apart := false }
def FnPermutationsSaid : Prop := fnPermutationsRow.holds Try.pinned (OpenSpec.ofChange fnPermutationsSpec)

/-- ITS FALSE NEIGHBOUR: 'it returns false'. Refute it at one input. -/
def fnPermutationsWrong : ChangeSpec := { name := "fnPermutations", fn := fun _ => fun
  | [d] => { results := [.lit (.bool false)], args := [d] }
  | _ => none }
def FnPermutationsWrongFalsely : Prop := fnPermutationsRow.holds Try.pinned (OpenSpec.ofChange fnPermutationsWrong)

/- THE SECOND FORM. 'bulk': how many values and letters a reading holds, each counted each time it is reached (what is shared counts as often as it is met; a slice's spare places count too). A statement '..UptoSaid' is the law's where the arguments, and the package variables that the reading takes, are together of bulk at most 1048576: NARROWER than '..Said'. Prove '..Said' where nothing that the law and all that it calls make is longer than what came in: it says more and counts as full. Else prove '..UptoSaid'. A law counts once. -/
mutual
def uptoBulk {H : Type} : DataW H → Nat
  | .lit (.string bytes) => bytes.length + 1
  | .lit _ => 1
  | .nil => 1
  | .ptr d => uptoBulk d + 1
  | .slice elems spare => uptoBulkAll elems + uptoBulkAll spare + 1
  | .agg parts => uptoBulkAll parts + 1
  | .iface _ d => uptoBulk d + 1
  | .map entries => uptoBulkEntries entries + 1
  | .held _ => 1
def uptoBulkAll {H : Type} : List (DataW H) → Nat
  | [] => 0
  | d :: r => uptoBulk d + uptoBulkAll r
def uptoBulkEntries {H : Type} : List (Lit × DataW H) → Nat
  | [] => 0
  | x :: r => uptoBulkEntry x + uptoBulkEntries r
def uptoBulkEntry {H : Type} : Lit × DataW H → Nat
  | (.string bytes, d) => bytes.length + uptoBulk d + 1
  | (_, d) => uptoBulk d + 1
 end
def uptoSmall : (H : Type) → List (DataW H) → Bool := fun _ ds => decide (uptoBulkAll ds ≤ 1048576)
def OpenSpec.upto (s : _root_.Go.ChangeSpec) : _root_.Go.OpenSpec := { _root_.Go.OpenSpec.ofChange s with cond := some uptoSmall }

/-- 'laws.FnExactIsPermutation', WHERE WHAT IT READS IS OF BULK AT MOST 1048576: true; the input reads as it did. -/
def fnExactIsPermutationUptoRow : OpenClaim := { program := "ytdgigkbfekbkkaa", sum := "62ec43b951b9a0d70124238b7dc01b3f98a617d43af2d9b1c06a4d13cd0cc3db", func := "loop.example/g01000/laws.FnExactIsPermutation", spec := "fnExactIsPermutation", apart := false, narrowed := true }
def FnExactIsPermutationUptoSaid : Prop := fnExactIsPermutationUptoRow.holds Try.pinned (OpenSpec.upto fnExactIsPermutationSpec)

/-- 'laws.FnExactRankOf', WHERE WHAT IT READS IS OF BULK AT MOST 1048576: true; the input reads as it did. -/
def fnExactRankOfUptoRow : OpenClaim := { program := "ytdgigkbfekbkkaa", sum := "62ec43b951b9a0d70124238b7dc01b3f98a617d43af2d9b1c06a4d13cd0cc3db", func := "loop.example/g01000/laws.FnExactRankOf", spec := "fnExactRankOf", apart := false, narrowed := true }
def FnExactRankOfUptoSaid : Prop := fnExactRankOfUptoRow.holds Try.pinned (OpenSpec.upto fnExactRankOfSpec)

/-- 'laws.FnExactInversePermutation', WHERE WHAT IT READS IS OF BULK AT MOST 1048576: true; the input reads as it did. -/
def fnExactInversePermutationUptoRow : OpenClaim := { program := "ytdgigkbfekbkkaa", sum := "62ec43b951b9a0d70124238b7dc01b3f98a617d43af2d9b1c06a4d13cd0cc3db", func := "loop.example/g01000/laws.FnExactInversePermutation", spec := "fnExactInversePermutation", apart := false, narrowed := true }
def FnExactInversePermutationUptoSaid : Prop := fnExactInversePermutationUptoRow.holds Try.pinned (OpenSpec.upto fnExactInversePermutationSpec)

/-- 'laws.FnExactProductOfTwo', WHERE WHAT IT READS IS OF BULK AT MOST 1048576: true; the input reads as it did. -/
def fnExactProductOfTwoUptoRow : OpenClaim := { program := "ytdgigkbfekbkkaa", sum := "62ec43b951b9a0d70124238b7dc01b3f98a617d43af2d9b1c06a4d13cd0cc3db", func := "loop.example/g01000/laws.FnExactProductOfTwo", spec := "fnExactProductOfTwo", apart := false, narrowed := true }
def FnExactProductOfTwoUptoSaid : Prop := fnExactProductOfTwoUptoRow.holds Try.pinned (OpenSpec.upto fnExactProductOfTwoSpec)

/-- 'laws.FnExactPermutationWith', WHERE WHAT IT READS IS OF BULK AT MOST 1048576: true; the input reads as it did. -/
def fnExactPermutationWithUptoRow : OpenClaim := { program := "ytdgigkbfekbkkaa", sum := "62ec43b951b9a0d70124238b7dc01b3f98a617d43af2d9b1c06a4d13cd0cc3db", func := "loop.example/g01000/laws.FnExactPermutationWith", spec := "fnExactPermutationWith", apart := false, narrowed := true }
def FnExactPermutationWithUptoSaid : Prop := fnExactPermutationWithUptoRow.holds Try.pinned (OpenSpec.upto fnExactPermutationWithSpec)

/-- 'laws.FnExactSignOf', WHERE WHAT IT READS IS OF BULK AT MOST 1048576: true; the input reads as it did. -/
def fnExactSignOfUptoRow : OpenClaim := { program := "ytdgigkbfekbkkaa", sum := "62ec43b951b9a0d70124238b7dc01b3f98a617d43af2d9b1c06a4d13cd0cc3db", func := "loop.example/g01000/laws.FnExactSignOf", spec := "fnExactSignOf", apart := false, narrowed := true }
def FnExactSignOfUptoSaid : Prop := fnExactSignOfUptoRow.holds Try.pinned (OpenSpec.upto fnExactSignOfSpec)

/-- 'laws.FnExactCyclesOf', WHERE WHAT IT READS IS OF BULK AT MOST 1048576: true; the input reads as it did. -/
def fnExactCyclesOfUptoRow : OpenClaim := { program := "ytdgigkbfekbkkaa", sum := "62ec43b951b9a0d70124238b7dc01b3f98a617d43af2d9b1c06a4d13cd0cc3db", func := "loop.example/g01000/laws.FnExactCyclesOf", spec := "fnExactCyclesOf", apart := false, narrowed := true }
def FnExactCyclesOfUptoSaid : Prop := fnExactCyclesOfUptoRow.holds Try.pinned (OpenSpec.upto fnExactCyclesOfSpec)

/-- 'laws.FnExactPowerPermutation', WHERE WHAT IT READS IS OF BULK AT MOST 1048576: true; the input reads as it did. -/
def fnExactPowerPermutationUptoRow : OpenClaim := { program := "ytdgigkbfekbkkaa", sum := "62ec43b951b9a0d70124238b7dc01b3f98a617d43af2d9b1c06a4d13cd0cc3db", func := "loop.example/g01000/laws.FnExactPowerPermutation", spec := "fnExactPowerPermutation", apart := false, narrowed := true }
def FnExactPowerPermutationUptoSaid : Prop := fnExactPowerPermutationUptoRow.holds Try.pinned (OpenSpec.upto fnExactPowerPermutationSpec)

/-- 'laws.FnPermutations', WHERE WHAT IT READS IS OF BULK AT MOST 1048576: true; the input reads as it did. -/
def fnPermutationsUptoRow : OpenClaim := { program := "ytdgigkbfekbkkaa", sum := "62ec43b951b9a0d70124238b7dc01b3f98a617d43af2d9b1c06a4d13cd0cc3db", func := "loop.example/g01000/laws.FnPermutations", spec := "fnPermutations", apart := false, narrowed := true }
def FnPermutationsUptoSaid : Prop := fnPermutationsUptoRow.holds Try.pinned (OpenSpec.upto fnPermutationsSpec)

end Rows
end Go.Proofs.Ytdgigkbfekbkkaa
