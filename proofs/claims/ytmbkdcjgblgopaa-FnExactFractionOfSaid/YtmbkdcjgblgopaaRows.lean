/-
  No cell of these rows narrows 'for every input' (looked for: loops, veiled, ifaces, maps, wideKeys, modest, calm, conditions, laid).
  DERIVED. THE GIVEN ROWS OF THIS SEAT. 12 by the template 'for every input the law returns true; each argument reads behind the call as it read before'; 0 by the template 'total and deterministic' (their statements: YtmbkdcjgblgopaaTotals.lean).
  GIVEN WITH THE SEED: the statements are not yours to turn. If you find one false, say at which input.
  Laid BY PROGRAM, IN A SANDBOX (cutbox-rows.mjs): the forced cells as the released guide's own fill.sh prints them over the translation d95d9484bd06f095… (all of the seat's roots in one cut). By AI agents, Wed Nov 11 2026. No macro, syntax, notation, axiom, sorry.
-/
import Derived.Test.YtmbkdcjgblgopaaChecked
import GoSem.Claim
import GoSem.ClaimJoined
import GoSem.ClaimMapViews
import Derived.JoinedTies
import Derived.KernelRfl
namespace Go.Proofs.Ytmbkdcjgblgopaa
/- THE CELL 'sum', in the pinned program and in every row, IS THE sha256 OF THE DUMP (.gsa) THAT YtmbkdcjgblgopaaProg.lean LOADS. Nothing in Lean hashes anything: it is a label: what it is worth is what the hold of that sum in a sandbox is worth. -/
noncomputable def Try.pinned : Pinned := { name := "ytmbkdcjgblgopaa", sum := "d95d9484bd06f095dfe985cc218b954820a0fbf9771a970f7d7633db4b2eed47", checked := Try.checked }
namespace Rows
def none {H : Type} : Left H := { results := [], args := [] }

/-- 'laws.FnExactModulusOf': WHATEVER THE INPUT: true; the input reads as it did. -/
def fnExactModulusOfSpec : ChangeSpec := { name := "fnExactModulusOf", fn := fun _ => fun
  | [d] => { results := [.lit (.bool true)], args := [d] }
  | _ => none }
def fnExactModulusOfRow : OpenClaim := { program := "ytmbkdcjgblgopaa", sum := "d95d9484bd06f095dfe985cc218b954820a0fbf9771a970f7d7633db4b2eed47", func := "loop.example/g01000/laws.FnExactModulusOf", spec := "fnExactModulusOf", apart := false }
def FnExactModulusOfSaid : Prop := fnExactModulusOfRow.holds Try.pinned (OpenSpec.ofChange fnExactModulusOfSpec)

/-- ITS FALSE NEIGHBOUR: 'it returns false'. Refute it at one input. -/
def fnExactModulusOfWrong : ChangeSpec := { name := "fnExactModulusOf", fn := fun _ => fun
  | [d] => { results := [.lit (.bool false)], args := [d] }
  | _ => none }
def FnExactModulusOfWrongFalsely : Prop := fnExactModulusOfRow.holds Try.pinned (OpenSpec.ofChange fnExactModulusOfWrong)

/-- 'laws.FnExactCountUnits': WHATEVER THE INPUT: true; the input reads as it did. -/
def fnExactCountUnitsSpec : ChangeSpec := { name := "fnExactCountUnits", fn := fun _ => fun
  | [d] => { results := [.lit (.bool true)], args := [d] }
  | _ => none }
def fnExactCountUnitsRow : OpenClaim := { program := "ytmbkdcjgblgopaa", sum := "d95d9484bd06f095dfe985cc218b954820a0fbf9771a970f7d7633db4b2eed47", func := "loop.example/g01000/laws.FnExactCountUnits", spec := "fnExactCountUnits", apart := false }
def FnExactCountUnitsSaid : Prop := fnExactCountUnitsRow.holds Try.pinned (OpenSpec.ofChange fnExactCountUnitsSpec)

/-- ITS FALSE NEIGHBOUR: 'it returns false'. Refute it at one input. -/
def fnExactCountUnitsWrong : ChangeSpec := { name := "fnExactCountUnits", fn := fun _ => fun
  | [d] => { results := [.lit (.bool false)], args := [d] }
  | _ => none }
def FnExactCountUnitsWrongFalsely : Prop := fnExactCountUnitsRow.holds Try.pinned (OpenSpec.ofChange fnExactCountUnitsWrong)

/-- 'laws.FnExactReduceTo': WHATEVER THE INPUT: true; the input reads as it did. -/
def fnExactReduceToSpec : ChangeSpec := { name := "fnExactReduceTo", fn := fun _ => fun
  | [d1, d2] => { results := [.lit (.bool true)], args := [d1, d2] }
  | _ => none }
def fnExactReduceToRow : OpenClaim := { program := "ytmbkdcjgblgopaa", sum := "d95d9484bd06f095dfe985cc218b954820a0fbf9771a970f7d7633db4b2eed47", func := "loop.example/g01000/laws.FnExactReduceTo", spec := "fnExactReduceTo", apart := false }
def FnExactReduceToSaid : Prop := fnExactReduceToRow.holds Try.pinned (OpenSpec.ofChange fnExactReduceToSpec)

/-- ITS FALSE NEIGHBOUR: 'it returns false'. Refute it at one input. -/
def fnExactReduceToWrong : ChangeSpec := { name := "fnExactReduceTo", fn := fun _ => fun
  | [d1, d2] => { results := [.lit (.bool false)], args := [d1, d2] }
  | _ => none }
def FnExactReduceToWrongFalsely : Prop := fnExactReduceToRow.holds Try.pinned (OpenSpec.ofChange fnExactReduceToWrong)

/-- 'laws.FnExactIsPadic': WHATEVER THE INPUT: true; the input reads as it did. -/
def fnExactIsPadicSpec : ChangeSpec := { name := "fnExactIsPadic", fn := fun _ => fun
  | [d] => { results := [.lit (.bool true)], args := [d] }
  | _ => none }
def fnExactIsPadicRow : OpenClaim := { program := "ytmbkdcjgblgopaa", sum := "d95d9484bd06f095dfe985cc218b954820a0fbf9771a970f7d7633db4b2eed47", func := "loop.example/g01000/laws.FnExactIsPadic", spec := "fnExactIsPadic", apart := false }
def FnExactIsPadicSaid : Prop := fnExactIsPadicRow.holds Try.pinned (OpenSpec.ofChange fnExactIsPadicSpec)

/-- ITS FALSE NEIGHBOUR: 'it returns false'. Refute it at one input. -/
def fnExactIsPadicWrong : ChangeSpec := { name := "fnExactIsPadic", fn := fun _ => fun
  | [d] => { results := [.lit (.bool false)], args := [d] }
  | _ => none }
def FnExactIsPadicWrongFalsely : Prop := fnExactIsPadicRow.holds Try.pinned (OpenSpec.ofChange fnExactIsPadicWrong)

/-- 'laws.FnExactEndOf': WHATEVER THE INPUT: true; the input reads as it did. -/
def fnExactEndOfSpec : ChangeSpec := { name := "fnExactEndOf", fn := fun _ => fun
  | [d] => { results := [.lit (.bool true)], args := [d] }
  | _ => none }
def fnExactEndOfRow : OpenClaim := { program := "ytmbkdcjgblgopaa", sum := "d95d9484bd06f095dfe985cc218b954820a0fbf9771a970f7d7633db4b2eed47", func := "loop.example/g01000/laws.FnExactEndOf", spec := "fnExactEndOf", apart := false }
def FnExactEndOfSaid : Prop := fnExactEndOfRow.holds Try.pinned (OpenSpec.ofChange fnExactEndOfSpec)

/-- ITS FALSE NEIGHBOUR: 'it returns false'. Refute it at one input. -/
def fnExactEndOfWrong : ChangeSpec := { name := "fnExactEndOf", fn := fun _ => fun
  | [d] => { results := [.lit (.bool false)], args := [d] }
  | _ => none }
def FnExactEndOfWrongFalsely : Prop := fnExactEndOfRow.holds Try.pinned (OpenSpec.ofChange fnExactEndOfWrong)

/-- 'laws.FnExactTeichmuellerOf': WHATEVER THE INPUT: true; the input reads as it did. -/
def fnExactTeichmuellerOfSpec : ChangeSpec := { name := "fnExactTeichmuellerOf", fn := fun _ => fun
  | [d1, d2] => { results := [.lit (.bool true)], args := [d1, d2] }
  | _ => none }
def fnExactTeichmuellerOfRow : OpenClaim := { program := "ytmbkdcjgblgopaa", sum := "d95d9484bd06f095dfe985cc218b954820a0fbf9771a970f7d7633db4b2eed47", func := "loop.example/g01000/laws.FnExactTeichmuellerOf", spec := "fnExactTeichmuellerOf", apart := false }
def FnExactTeichmuellerOfSaid : Prop := fnExactTeichmuellerOfRow.holds Try.pinned (OpenSpec.ofChange fnExactTeichmuellerOfSpec)

/-- ITS FALSE NEIGHBOUR: 'it returns false'. Refute it at one input. -/
def fnExactTeichmuellerOfWrong : ChangeSpec := { name := "fnExactTeichmuellerOf", fn := fun _ => fun
  | [d1, d2] => { results := [.lit (.bool false)], args := [d1, d2] }
  | _ => none }
def FnExactTeichmuellerOfWrongFalsely : Prop := fnExactTeichmuellerOfRow.holds Try.pinned (OpenSpec.ofChange fnExactTeichmuellerOfWrong)

/-- 'laws.FnExactPowerOf': WHATEVER THE INPUT: true; the input reads as it did. -/
def fnExactPowerOfSpec : ChangeSpec := { name := "fnExactPowerOf", fn := fun _ => fun
  | [d1, d2, d3] => { results := [.lit (.bool true)], args := [d1, d2, d3] }
  | _ => none }
def fnExactPowerOfRow : OpenClaim := { program := "ytmbkdcjgblgopaa", sum := "d95d9484bd06f095dfe985cc218b954820a0fbf9771a970f7d7633db4b2eed47", func := "loop.example/g01000/laws.FnExactPowerOf", spec := "fnExactPowerOf", apart := false }
def FnExactPowerOfSaid : Prop := fnExactPowerOfRow.holds Try.pinned (OpenSpec.ofChange fnExactPowerOfSpec)

/-- ITS FALSE NEIGHBOUR: 'it returns false'. Refute it at one input. -/
def fnExactPowerOfWrong : ChangeSpec := { name := "fnExactPowerOf", fn := fun _ => fun
  | [d1, d2, d3] => { results := [.lit (.bool false)], args := [d1, d2, d3] }
  | _ => none }
def FnExactPowerOfWrongFalsely : Prop := fnExactPowerOfRow.holds Try.pinned (OpenSpec.ofChange fnExactPowerOfWrong)

/-- 'laws.FnExactMakePadic': WHATEVER THE INPUT: true; the input reads as it did. -/
def fnExactMakePadicSpec : ChangeSpec := { name := "fnExactMakePadic", fn := fun _ => fun
  | [d1, d2, d3] => { results := [.lit (.bool true)], args := [d1, d2, d3] }
  | _ => none }
def fnExactMakePadicRow : OpenClaim := { program := "ytmbkdcjgblgopaa", sum := "d95d9484bd06f095dfe985cc218b954820a0fbf9771a970f7d7633db4b2eed47", func := "loop.example/g01000/laws.FnExactMakePadic", spec := "fnExactMakePadic", apart := false }
def FnExactMakePadicSaid : Prop := fnExactMakePadicRow.holds Try.pinned (OpenSpec.ofChange fnExactMakePadicSpec)

/-- ITS FALSE NEIGHBOUR: 'it returns false'. Refute it at one input. -/
def fnExactMakePadicWrong : ChangeSpec := { name := "fnExactMakePadic", fn := fun _ => fun
  | [d1, d2, d3] => { results := [.lit (.bool false)], args := [d1, d2, d3] }
  | _ => none }
def FnExactMakePadicWrongFalsely : Prop := fnExactMakePadicRow.holds Try.pinned (OpenSpec.ofChange fnExactMakePadicWrong)

/-- 'laws.FnExactDigitAt': WHATEVER THE INPUT: true; the input reads as it did. -/
def fnExactDigitAtSpec : ChangeSpec := { name := "fnExactDigitAt", fn := fun _ => fun
  | [d1, d2] => { results := [.lit (.bool true)], args := [d1, d2] }
  | _ => none }
def fnExactDigitAtRow : OpenClaim := { program := "ytmbkdcjgblgopaa", sum := "d95d9484bd06f095dfe985cc218b954820a0fbf9771a970f7d7633db4b2eed47", func := "loop.example/g01000/laws.FnExactDigitAt", spec := "fnExactDigitAt", apart := false }
def FnExactDigitAtSaid : Prop := fnExactDigitAtRow.holds Try.pinned (OpenSpec.ofChange fnExactDigitAtSpec)

/-- ITS FALSE NEIGHBOUR: 'it returns false'. Refute it at one input. -/
def fnExactDigitAtWrong : ChangeSpec := { name := "fnExactDigitAt", fn := fun _ => fun
  | [d1, d2] => { results := [.lit (.bool false)], args := [d1, d2] }
  | _ => none }
def FnExactDigitAtWrongFalsely : Prop := fnExactDigitAtRow.holds Try.pinned (OpenSpec.ofChange fnExactDigitAtWrong)

/-- 'laws.FnExactCutPadic': WHATEVER THE INPUT: true; the input reads as it did. -/
def fnExactCutPadicSpec : ChangeSpec := { name := "fnExactCutPadic", fn := fun _ => fun
  | [d1, d2] => { results := [.lit (.bool true)], args := [d1, d2] }
  | _ => none }
def fnExactCutPadicRow : OpenClaim := { program := "ytmbkdcjgblgopaa", sum := "d95d9484bd06f095dfe985cc218b954820a0fbf9771a970f7d7633db4b2eed47", func := "loop.example/g01000/laws.FnExactCutPadic", spec := "fnExactCutPadic", apart := false }
def FnExactCutPadicSaid : Prop := fnExactCutPadicRow.holds Try.pinned (OpenSpec.ofChange fnExactCutPadicSpec)

/-- ITS FALSE NEIGHBOUR: 'it returns false'. Refute it at one input. -/
def fnExactCutPadicWrong : ChangeSpec := { name := "fnExactCutPadic", fn := fun _ => fun
  | [d1, d2] => { results := [.lit (.bool false)], args := [d1, d2] }
  | _ => none }
def FnExactCutPadicWrongFalsely : Prop := fnExactCutPadicRow.holds Try.pinned (OpenSpec.ofChange fnExactCutPadicWrong)

/-- 'laws.FnExactNegatePadic': WHATEVER THE INPUT: true; the input reads as it did. -/
def fnExactNegatePadicSpec : ChangeSpec := { name := "fnExactNegatePadic", fn := fun _ => fun
  | [d] => { results := [.lit (.bool true)], args := [d] }
  | _ => none }
def fnExactNegatePadicRow : OpenClaim := { program := "ytmbkdcjgblgopaa", sum := "d95d9484bd06f095dfe985cc218b954820a0fbf9771a970f7d7633db4b2eed47", func := "loop.example/g01000/laws.FnExactNegatePadic", spec := "fnExactNegatePadic", apart := false }
def FnExactNegatePadicSaid : Prop := fnExactNegatePadicRow.holds Try.pinned (OpenSpec.ofChange fnExactNegatePadicSpec)

/-- ITS FALSE NEIGHBOUR: 'it returns false'. Refute it at one input. -/
def fnExactNegatePadicWrong : ChangeSpec := { name := "fnExactNegatePadic", fn := fun _ => fun
  | [d] => { results := [.lit (.bool false)], args := [d] }
  | _ => none }
def FnExactNegatePadicWrongFalsely : Prop := fnExactNegatePadicRow.holds Try.pinned (OpenSpec.ofChange fnExactNegatePadicWrong)

/-- 'laws.FnExactFractionOf': WHATEVER THE INPUT: true; the input reads as it did. -/
def fnExactFractionOfSpec : ChangeSpec := { name := "fnExactFractionOf", fn := fun _ => fun
  | [d] => { results := [.lit (.bool true)], args := [d] }
  | _ => none }
def fnExactFractionOfRow : OpenClaim := { program := "ytmbkdcjgblgopaa", sum := "d95d9484bd06f095dfe985cc218b954820a0fbf9771a970f7d7633db4b2eed47", func := "loop.example/g01000/laws.FnExactFractionOf", spec := "fnExactFractionOf", apart := false }
def FnExactFractionOfSaid : Prop := fnExactFractionOfRow.holds Try.pinned (OpenSpec.ofChange fnExactFractionOfSpec)

/-- ITS FALSE NEIGHBOUR: 'it returns false'. Refute it at one input. -/
def fnExactFractionOfWrong : ChangeSpec := { name := "fnExactFractionOf", fn := fun _ => fun
  | [d] => { results := [.lit (.bool false)], args := [d] }
  | _ => none }
def FnExactFractionOfWrongFalsely : Prop := fnExactFractionOfRow.holds Try.pinned (OpenSpec.ofChange fnExactFractionOfWrong)

/- THE SECOND FORM. 'bulk': how many values and letters a reading holds, each counted each time it is reached (what is shared counts as often as it is met; a slice's spare places count too). A statement '..UptoSaid' is the law's where the arguments, and the package variables that the reading takes, are together of bulk at most 1048576: NARROWER than '..Said'. Prove '..Said' where nothing that the law and all that it calls make is longer than what came in: it says more and counts as full. Else prove '..UptoSaid'. A law counts once. -/
mutual
def uptoBulk {H : Type} : DataW H → Nat
  | .lit (.string bytes) => bytes.length + 1
  | .lit _ => 1
  | .nil => 1
  | .ptr d => uptoBulk d + 1
  | .slice elems spare => uptoBulkAll elems + uptoBulkAll spare + 1
  | .agg parts => uptoBulkAll parts + 1
  | .iface _ d => uptoBulk d + 1
  | .map entries => uptoBulkEntries entries + 1
  | .held _ => 1
def uptoBulkAll {H : Type} : List (DataW H) → Nat
  | [] => 0
  | d :: r => uptoBulk d + uptoBulkAll r
def uptoBulkEntries {H : Type} : List (Lit × DataW H) → Nat
  | [] => 0
  | x :: r => uptoBulkEntry x + uptoBulkEntries r
def uptoBulkEntry {H : Type} : Lit × DataW H → Nat
  | (.string bytes, d) => bytes.length + uptoBulk d + 1
  | (_, d) => uptoBulk d + 1
 end
def uptoSmall : (H : Type) → List (DataW H) → Bool := fun _ ds => decide (uptoBulkAll ds ≤ 1048576)
def OpenSpec.upto (s : _root_.Go.ChangeSpec) : _root_.Go.OpenSpec := { _root_.Go.OpenSpec.ofChange s with cond := some uptoSmall }

/-- 'laws.FnExactModulusOf', WHERE WHAT IT READS IS OF BULK AT MOST 1048576: true; the input reads as it did. -/
def fnExactModulusOfUptoRow : OpenClaim := { program := "ytmbkdcjgblgopaa", sum := "d95d9484bd06f095dfe985cc218b954820a0fbf9771a970f7d7633db4b2eed47", func := "loop.example/g01000/laws.FnExactModulusOf", spec := "fnExactModulusOf", apart := false, narrowed := true }
def FnExactModulusOfUptoSaid : Prop := fnExactModulusOfUptoRow.holds Try.pinned (OpenSpec.upto fnExactModulusOfSpec)

/-- 'laws.FnExactCountUnits', WHERE WHAT IT READS IS OF BULK AT MOST 1048576: true; the input reads as it did. -/
def fnExactCountUnitsUptoRow : OpenClaim := { program := "ytmbkdcjgblgopaa", sum := "d95d9484bd06f095dfe985cc218b954820a0fbf9771a970f7d7633db4b2eed47", func := "loop.example/g01000/laws.FnExactCountUnits", spec := "fnExactCountUnits", apart := false, narrowed := true }
def FnExactCountUnitsUptoSaid : Prop := fnExactCountUnitsUptoRow.holds Try.pinned (OpenSpec.upto fnExactCountUnitsSpec)

/-- 'laws.FnExactReduceTo', WHERE WHAT IT READS IS OF BULK AT MOST 1048576: true; the input reads as it did. -/
def fnExactReduceToUptoRow : OpenClaim := { program := "ytmbkdcjgblgopaa", sum := "d95d9484bd06f095dfe985cc218b954820a0fbf9771a970f7d7633db4b2eed47", func := "loop.example/g01000/laws.FnExactReduceTo", spec := "fnExactReduceTo", apart := false, narrowed := true }
def FnExactReduceToUptoSaid : Prop := fnExactReduceToUptoRow.holds Try.pinned (OpenSpec.upto fnExactReduceToSpec)

/-- 'laws.FnExactIsPadic', WHERE WHAT IT READS IS OF BULK AT MOST 1048576: true; the input reads as it did. -/
def fnExactIsPadicUptoRow : OpenClaim := { program := "ytmbkdcjgblgopaa", sum := "d95d9484bd06f095dfe985cc218b954820a0fbf9771a970f7d7633db4b2eed47", func := "loop.example/g01000/laws.FnExactIsPadic", spec := "fnExactIsPadic", apart := false, narrowed := true }
def FnExactIsPadicUptoSaid : Prop := fnExactIsPadicUptoRow.holds Try.pinned (OpenSpec.upto fnExactIsPadicSpec)

/-- 'laws.FnExactEndOf', WHERE WHAT IT READS IS OF BULK AT MOST 1048576: true; the input reads as it did. -/
def fnExactEndOfUptoRow : OpenClaim := { program := "ytmbkdcjgblgopaa", sum := "d95d9484bd06f095dfe985cc218b954820a0fbf9771a970f7d7633db4b2eed47", func := "loop.example/g01000/laws.FnExactEndOf", spec := "fnExactEndOf", apart := false, narrowed := true }
def FnExactEndOfUptoSaid : Prop := fnExactEndOfUptoRow.holds Try.pinned (OpenSpec.upto fnExactEndOfSpec)

/-- 'laws.FnExactTeichmuellerOf', WHERE WHAT IT READS IS OF BULK AT MOST 1048576: true; the input reads as it did. -/
def fnExactTeichmuellerOfUptoRow : OpenClaim := { program := "ytmbkdcjgblgopaa", sum := "d95d9484bd06f095dfe985cc218b954820a0fbf9771a970f7d7633db4b2eed47", func := "loop.example/g01000/laws.FnExactTeichmuellerOf", spec := "fnExactTeichmuellerOf", apart := false, narrowed := true }
def FnExactTeichmuellerOfUptoSaid : Prop := fnExactTeichmuellerOfUptoRow.holds Try.pinned (OpenSpec.upto fnExactTeichmuellerOfSpec)

/-- 'laws.FnExactPowerOf', WHERE WHAT IT READS IS OF BULK AT MOST 1048576: true; the input reads as it did. -/
def fnExactPowerOfUptoRow : OpenClaim := { program := "ytmbkdcjgblgopaa", sum := "d95d9484bd06f095dfe985cc218b954820a0fbf9771a970f7d7633db4b2eed47", func := "loop.example/g01000/laws.FnExactPowerOf", spec := "fnExactPowerOf", apart := false, narrowed := true }
def FnExactPowerOfUptoSaid : Prop := fnExactPowerOfUptoRow.holds Try.pinned (OpenSpec.upto fnExactPowerOfSpec)

/-- 'laws.FnExactMakePadic', WHERE WHAT IT READS IS OF BULK AT MOST 1048576: true; the input reads as it did. -/
def fnExactMakePadicUptoRow : OpenClaim := { program := "ytmbkdcjgblgopaa", sum := "d95d9484bd06f095dfe985cc218b954820a0fbf9771a970f7d7633db4b2eed47", func := "loop.example/g01000/laws.FnExactMakePadic", spec := "fnExactMakePadic", apart := false, narrowed := true }
def FnExactMakePadicUptoSaid : Prop := fnExactMakePadicUptoRow.holds Try.pinned (OpenSpec.upto fnExactMakePadicSpec)

/-- 'laws.FnExactDigitAt', WHERE WHAT IT READS IS OF BULK AT MOST 1048576: true; the input reads as it did. -/
def fnExactDigitAtUptoRow : OpenClaim := { program := "ytmbkdcjgblgopaa", sum := "d95d9484bd06f095dfe985cc218b954820a0fbf9771a970f7d7633db4b2eed47", func := "loop.example/g01000/laws.FnExactDigitAt", spec := "fnExactDigitAt", apart := false, narrowed := true }
def FnExactDigitAtUptoSaid : Prop := fnExactDigitAtUptoRow.holds Try.pinned (OpenSpec.upto fnExactDigitAtSpec)

/-- 'laws.FnExactCutPadic', WHERE WHAT IT READS IS OF BULK AT MOST 1048576: true; the input reads as it did. -/
def fnExactCutPadicUptoRow : OpenClaim := { program := "ytmbkdcjgblgopaa", sum := "d95d9484bd06f095dfe985cc218b954820a0fbf9771a970f7d7633db4b2eed47", func := "loop.example/g01000/laws.FnExactCutPadic", spec := "fnExactCutPadic", apart := false, narrowed := true }
def FnExactCutPadicUptoSaid : Prop := fnExactCutPadicUptoRow.holds Try.pinned (OpenSpec.upto fnExactCutPadicSpec)

/-- 'laws.FnExactNegatePadic', WHERE WHAT IT READS IS OF BULK AT MOST 1048576: true; the input reads as it did. -/
def fnExactNegatePadicUptoRow : OpenClaim := { program := "ytmbkdcjgblgopaa", sum := "d95d9484bd06f095dfe985cc218b954820a0fbf9771a970f7d7633db4b2eed47", func := "loop.example/g01000/laws.FnExactNegatePadic", spec := "fnExactNegatePadic", apart := false, narrowed := true }
def FnExactNegatePadicUptoSaid : Prop := fnExactNegatePadicUptoRow.holds Try.pinned (OpenSpec.upto fnExactNegatePadicSpec)

/-- 'laws.FnExactFractionOf', WHERE WHAT IT READS IS OF BULK AT MOST 1048576: true; the input reads as it did. -/
def fnExactFractionOfUptoRow : OpenClaim := { program := "ytmbkdcjgblgopaa", sum := "d95d9484bd06f095dfe985cc218b954820a0fbf9771a970f7d7633db4b2eed47", func := "loop.example/g01000/laws.FnExactFractionOf", spec := "fnExactFractionOf", apart := false, narrowed := true }
def FnExactFractionOfUptoSaid : Prop := fnExactFractionOfUptoRow.holds Try.pinned (OpenSpec.upto fnExactFractionOfSpec)

end Rows
end Go.Proofs.Ytmbkdcjgblgopaa
