/-
  No cell of these rows narrows 'for every input' (looked for: loops, veiled, ifaces, maps, wideKeys, modest, calm, conditions, laid).
  DERIVED. THE GIVEN ROWS OF THIS SEAT. 12 by the template 'for every input the law returns true; each argument reads behind the call as it read before'; 0 by the template 'total and deterministic' (their statements: YthepcmppibibfaaTotals.lean).
  GIVEN WITH THE SEED: the statements are not yours to turn. If you find one false, say at which input.
  Laid BY PROGRAM, IN A SANDBOX (cutbox-rows.mjs): the forced cells as the released guide's own fill.sh prints them over the translation 8add17b3e41fe5e2… (all of the seat's roots in one cut). By AI agents, Wed Nov 11 2026. No macro, syntax, notation, axiom, sorry.
-/
import Derived.Test.YthepcmppibibfaaChecked
import GoSem.Claim
import GoSem.ClaimJoined
import GoSem.ClaimMapViews
import Derived.JoinedTies
import Derived.KernelRfl
namespace Go.Proofs.Ythepcmppibibfaa
/- THE CELL 'sum', in the pinned program and in every row, IS THE sha256 OF THE DUMP (.gsa) THAT YthepcmppibibfaaProg.lean LOADS. Nothing in Lean hashes anything: it is a label: what it is worth is what the hold of that sum in a sandbox is worth. -/
noncomputable def Try.pinned : Pinned := { name := "ythepcmppibibfaa", sum := "8add17b3e41fe5e28d44f35c236f95e34a443b4793f3d194345d966ef6b0c918", checked := Try.checked }
namespace Rows
def none {H : Type} : Left H := { results := [], args := [] }

/-- 'laws.FnExactIsInRing': WHATEVER THE INPUT: true; the input reads as it did. -/
def fnExactIsInRingSpec : ChangeSpec := { name := "fnExactIsInRing", fn := fun _ => fun
  | [d1, d2] => { results := [.lit (.bool true)], args := [d1, d2] }
  | _ => none }
def fnExactIsInRingRow : OpenClaim := { program := "ythepcmppibibfaa", sum := "8add17b3e41fe5e28d44f35c236f95e34a443b4793f3d194345d966ef6b0c918", func := "loop.example/g01000/laws.FnExactIsInRing", spec := "fnExactIsInRing", unfollowed := true, recurses := true, apart := false }
def FnExactIsInRingSaid : Prop := fnExactIsInRingRow.holds Try.pinned (OpenSpec.ofChange fnExactIsInRingSpec)

/-- ITS FALSE NEIGHBOUR: 'it returns false'. Refute it at one input. -/
def fnExactIsInRingWrong : ChangeSpec := { name := "fnExactIsInRing", fn := fun _ => fun
  | [d1, d2] => { results := [.lit (.bool false)], args := [d1, d2] }
  | _ => none }
def FnExactIsInRingWrongFalsely : Prop := fnExactIsInRingRow.holds Try.pinned (OpenSpec.ofChange fnExactIsInRingWrong)

/-- 'laws.FnExactReduceToRing': WHATEVER THE INPUT: true; the input reads as it did. -/
def fnExactReduceToRingSpec : ChangeSpec := { name := "fnExactReduceToRing", fn := fun _ => fun
  | [d1, d2] => { results := [.lit (.bool true)], args := [d1, d2] }
  | _ => none }
def fnExactReduceToRingRow : OpenClaim := { program := "ythepcmppibibfaa", sum := "8add17b3e41fe5e28d44f35c236f95e34a443b4793f3d194345d966ef6b0c918", func := "loop.example/g01000/laws.FnExactReduceToRing", spec := "fnExactReduceToRing", unfollowed := true, recurses := true, apart := false }
def FnExactReduceToRingSaid : Prop := fnExactReduceToRingRow.holds Try.pinned (OpenSpec.ofChange fnExactReduceToRingSpec)

/-- ITS FALSE NEIGHBOUR: 'it returns false'. Refute it at one input. -/
def fnExactReduceToRingWrong : ChangeSpec := { name := "fnExactReduceToRing", fn := fun _ => fun
  | [d1, d2] => { results := [.lit (.bool false)], args := [d1, d2] }
  | _ => none }
def FnExactReduceToRingWrongFalsely : Prop := fnExactReduceToRingRow.holds Try.pinned (OpenSpec.ofChange fnExactReduceToRingWrong)

/-- 'laws.FnExactMultiplyModular': WHATEVER THE INPUT: true; the input reads as it did. -/
def fnExactMultiplyModularSpec : ChangeSpec := { name := "fnExactMultiplyModular", fn := fun _ => fun
  | [d1, d2, d3] => { results := [.lit (.bool true)], args := [d1, d2, d3] }
  | _ => none }
def fnExactMultiplyModularRow : OpenClaim := { program := "ythepcmppibibfaa", sum := "8add17b3e41fe5e28d44f35c236f95e34a443b4793f3d194345d966ef6b0c918", func := "loop.example/g01000/laws.FnExactMultiplyModular", spec := "fnExactMultiplyModular", unfollowed := true, recurses := true, apart := false }
def FnExactMultiplyModularSaid : Prop := fnExactMultiplyModularRow.holds Try.pinned (OpenSpec.ofChange fnExactMultiplyModularSpec)

/-- ITS FALSE NEIGHBOUR: 'it returns false'. Refute it at one input. -/
def fnExactMultiplyModularWrong : ChangeSpec := { name := "fnExactMultiplyModular", fn := fun _ => fun
  | [d1, d2, d3] => { results := [.lit (.bool false)], args := [d1, d2, d3] }
  | _ => none }
def FnExactMultiplyModularWrongFalsely : Prop := fnExactMultiplyModularRow.holds Try.pinned (OpenSpec.ofChange fnExactMultiplyModularWrong)

/-- 'laws.FnExactDivideModular': WHATEVER THE INPUT: true; the input reads as it did. -/
def fnExactDivideModularSpec : ChangeSpec := { name := "fnExactDivideModular", fn := fun _ => fun
  | [d1, d2, d3] => { results := [.lit (.bool true)], args := [d1, d2, d3] }
  | _ => none }
def fnExactDivideModularRow : OpenClaim := { program := "ythepcmppibibfaa", sum := "8add17b3e41fe5e28d44f35c236f95e34a443b4793f3d194345d966ef6b0c918", func := "loop.example/g01000/laws.FnExactDivideModular", spec := "fnExactDivideModular", unfollowed := true, recurses := true, apart := false }
def FnExactDivideModularSaid : Prop := fnExactDivideModularRow.holds Try.pinned (OpenSpec.ofChange fnExactDivideModularSpec)

/-- ITS FALSE NEIGHBOUR: 'it returns false'. Refute it at one input. -/
def fnExactDivideModularWrong : ChangeSpec := { name := "fnExactDivideModular", fn := fun _ => fun
  | [d1, d2, d3] => { results := [.lit (.bool false)], args := [d1, d2, d3] }
  | _ => none }
def FnExactDivideModularWrongFalsely : Prop := fnExactDivideModularRow.holds Try.pinned (OpenSpec.ofChange fnExactDivideModularWrong)

/-- 'laws.FnExactCommonModular': WHATEVER THE INPUT: true; the input reads as it did. -/
def fnExactCommonModularSpec : ChangeSpec := { name := "fnExactCommonModular", fn := fun _ => fun
  | [d1, d2, d3] => { results := [.lit (.bool true)], args := [d1, d2, d3] }
  | _ => none }
def fnExactCommonModularRow : OpenClaim := { program := "ythepcmppibibfaa", sum := "8add17b3e41fe5e28d44f35c236f95e34a443b4793f3d194345d966ef6b0c918", func := "loop.example/g01000/laws.FnExactCommonModular", spec := "fnExactCommonModular", unfollowed := true, recurses := true, apart := false }
def FnExactCommonModularSaid : Prop := fnExactCommonModularRow.holds Try.pinned (OpenSpec.ofChange fnExactCommonModularSpec)

/-- ITS FALSE NEIGHBOUR: 'it returns false'. Refute it at one input. -/
def fnExactCommonModularWrong : ChangeSpec := { name := "fnExactCommonModular", fn := fun _ => fun
  | [d1, d2, d3] => { results := [.lit (.bool false)], args := [d1, d2, d3] }
  | _ => none }
def FnExactCommonModularWrongFalsely : Prop := fnExactCommonModularRow.holds Try.pinned (OpenSpec.ofChange fnExactCommonModularWrong)

/-- 'laws.FnExactIsSquareFree': WHATEVER THE INPUT: true; the input reads as it did. -/
def fnExactIsSquareFreeSpec : ChangeSpec := { name := "fnExactIsSquareFree", fn := fun _ => fun
  | [d1, d2] => { results := [.lit (.bool true)], args := [d1, d2] }
  | _ => none }
def fnExactIsSquareFreeRow : OpenClaim := { program := "ythepcmppibibfaa", sum := "8add17b3e41fe5e28d44f35c236f95e34a443b4793f3d194345d966ef6b0c918", func := "loop.example/g01000/laws.FnExactIsSquareFree", spec := "fnExactIsSquareFree", unfollowed := true, recurses := true, apart := false }
def FnExactIsSquareFreeSaid : Prop := fnExactIsSquareFreeRow.holds Try.pinned (OpenSpec.ofChange fnExactIsSquareFreeSpec)

/-- ITS FALSE NEIGHBOUR: 'it returns false'. Refute it at one input. -/
def fnExactIsSquareFreeWrong : ChangeSpec := { name := "fnExactIsSquareFree", fn := fun _ => fun
  | [d1, d2] => { results := [.lit (.bool false)], args := [d1, d2] }
  | _ => none }
def FnExactIsSquareFreeWrongFalsely : Prop := fnExactIsSquareFreeRow.holds Try.pinned (OpenSpec.ofChange fnExactIsSquareFreeWrong)

/-- 'laws.FnExactPowerOfX': WHATEVER THE INPUT: true; the input reads as it did. -/
def fnExactPowerOfXSpec : ChangeSpec := { name := "fnExactPowerOfX", fn := fun _ => fun
  | [d1, d2, d3] => { results := [.lit (.bool true)], args := [d1, d2, d3] }
  | _ => none }
def fnExactPowerOfXRow : OpenClaim := { program := "ythepcmppibibfaa", sum := "8add17b3e41fe5e28d44f35c236f95e34a443b4793f3d194345d966ef6b0c918", func := "loop.example/g01000/laws.FnExactPowerOfX", spec := "fnExactPowerOfX", unfollowed := true, recurses := true, apart := false }
def FnExactPowerOfXSaid : Prop := fnExactPowerOfXRow.holds Try.pinned (OpenSpec.ofChange fnExactPowerOfXSpec)

/-- ITS FALSE NEIGHBOUR: 'it returns false'. Refute it at one input. -/
def fnExactPowerOfXWrong : ChangeSpec := { name := "fnExactPowerOfX", fn := fun _ => fun
  | [d1, d2, d3] => { results := [.lit (.bool false)], args := [d1, d2, d3] }
  | _ => none }
def FnExactPowerOfXWrongFalsely : Prop := fnExactPowerOfXRow.holds Try.pinned (OpenSpec.ofChange fnExactPowerOfXWrong)

/-- 'laws.FnExactLiftRoot': WHATEVER THE INPUT: true; the input reads as it did. -/
def fnExactLiftRootSpec : ChangeSpec := { name := "fnExactLiftRoot", fn := fun _ => fun
  | [d1, d2, d3] => { results := [.lit (.bool true)], args := [d1, d2, d3] }
  | _ => none }
def fnExactLiftRootRow : OpenClaim := { program := "ythepcmppibibfaa", sum := "8add17b3e41fe5e28d44f35c236f95e34a443b4793f3d194345d966ef6b0c918", func := "loop.example/g01000/laws.FnExactLiftRoot", spec := "fnExactLiftRoot", unfollowed := true, recurses := true, apart := false }
def FnExactLiftRootSaid : Prop := fnExactLiftRootRow.holds Try.pinned (OpenSpec.ofChange fnExactLiftRootSpec)

/-- ITS FALSE NEIGHBOUR: 'it returns false'. Refute it at one input. -/
def fnExactLiftRootWrong : ChangeSpec := { name := "fnExactLiftRoot", fn := fun _ => fun
  | [d1, d2, d3] => { results := [.lit (.bool false)], args := [d1, d2, d3] }
  | _ => none }
def FnExactLiftRootWrongFalsely : Prop := fnExactLiftRootRow.holds Try.pinned (OpenSpec.ofChange fnExactLiftRootWrong)

/-- 'laws.FnExactSimpleRoots': WHATEVER THE INPUT: true; the input reads as it did. -/
def fnExactSimpleRootsSpec : ChangeSpec := { name := "fnExactSimpleRoots", fn := fun _ => fun
  | [d1, d2] => { results := [.lit (.bool true)], args := [d1, d2] }
  | _ => none }
def fnExactSimpleRootsRow : OpenClaim := { program := "ythepcmppibibfaa", sum := "8add17b3e41fe5e28d44f35c236f95e34a443b4793f3d194345d966ef6b0c918", func := "loop.example/g01000/laws.FnExactSimpleRoots", spec := "fnExactSimpleRoots", unfollowed := true, recurses := true, apart := false }
def FnExactSimpleRootsSaid : Prop := fnExactSimpleRootsRow.holds Try.pinned (OpenSpec.ofChange fnExactSimpleRootsSpec)

/-- ITS FALSE NEIGHBOUR: 'it returns false'. Refute it at one input. -/
def fnExactSimpleRootsWrong : ChangeSpec := { name := "fnExactSimpleRoots", fn := fun _ => fun
  | [d1, d2] => { results := [.lit (.bool false)], args := [d1, d2] }
  | _ => none }
def FnExactSimpleRootsWrongFalsely : Prop := fnExactSimpleRootsRow.holds Try.pinned (OpenSpec.ofChange fnExactSimpleRootsWrong)

/-- 'laws.FnExactCountRootsInRing': WHATEVER THE INPUT: true; the input reads as it did. -/
def fnExactCountRootsInRingSpec : ChangeSpec := { name := "fnExactCountRootsInRing", fn := fun _ => fun
  | [d1, d2] => { results := [.lit (.bool true)], args := [d1, d2] }
  | _ => none }
def fnExactCountRootsInRingRow : OpenClaim := { program := "ythepcmppibibfaa", sum := "8add17b3e41fe5e28d44f35c236f95e34a443b4793f3d194345d966ef6b0c918", func := "loop.example/g01000/laws.FnExactCountRootsInRing", spec := "fnExactCountRootsInRing", unfollowed := true, recurses := true, apart := false }
def FnExactCountRootsInRingSaid : Prop := fnExactCountRootsInRingRow.holds Try.pinned (OpenSpec.ofChange fnExactCountRootsInRingSpec)

/-- ITS FALSE NEIGHBOUR: 'it returns false'. Refute it at one input. -/
def fnExactCountRootsInRingWrong : ChangeSpec := { name := "fnExactCountRootsInRing", fn := fun _ => fun
  | [d1, d2] => { results := [.lit (.bool false)], args := [d1, d2] }
  | _ => none }
def FnExactCountRootsInRingWrongFalsely : Prop := fnExactCountRootsInRingRow.holds Try.pinned (OpenSpec.ofChange fnExactCountRootsInRingWrong)

/-- 'laws.FnExactProductOf': WHATEVER THE INPUT: true; the input reads as it did. -/
def fnExactProductOfSpec : ChangeSpec := { name := "fnExactProductOf", fn := fun _ => fun
  | [d1, d2] => { results := [.lit (.bool true)], args := [d1, d2] }
  | _ => none }
def fnExactProductOfRow : OpenClaim := { program := "ythepcmppibibfaa", sum := "8add17b3e41fe5e28d44f35c236f95e34a443b4793f3d194345d966ef6b0c918", func := "loop.example/g01000/laws.FnExactProductOf", spec := "fnExactProductOf", unfollowed := true, recurses := true, apart := false }
def FnExactProductOfSaid : Prop := fnExactProductOfRow.holds Try.pinned (OpenSpec.ofChange fnExactProductOfSpec)

/-- ITS FALSE NEIGHBOUR: 'it returns false'. Refute it at one input. -/
def fnExactProductOfWrong : ChangeSpec := { name := "fnExactProductOf", fn := fun _ => fun
  | [d1, d2] => { results := [.lit (.bool false)], args := [d1, d2] }
  | _ => none }
def FnExactProductOfWrongFalsely : Prop := fnExactProductOfRow.holds Try.pinned (OpenSpec.ofChange fnExactProductOfWrong)

/-- 'laws.FnExactResidualOf': WHATEVER THE INPUT: true; the input reads as it did. -/
def fnExactResidualOfSpec : ChangeSpec := { name := "fnExactResidualOf", fn := fun _ => fun
  | [d1, d2, d3] => { results := [.lit (.bool true)], args := [d1, d2, d3] }
  | _ => none }
def fnExactResidualOfRow : OpenClaim := { program := "ythepcmppibibfaa", sum := "8add17b3e41fe5e28d44f35c236f95e34a443b4793f3d194345d966ef6b0c918", func := "loop.example/g01000/laws.FnExactResidualOf", spec := "fnExactResidualOf", unfollowed := true, recurses := true, apart := false }
def FnExactResidualOfSaid : Prop := fnExactResidualOfRow.holds Try.pinned (OpenSpec.ofChange fnExactResidualOfSpec)

/-- ITS FALSE NEIGHBOUR: 'it returns false'. Refute it at one input. -/
def fnExactResidualOfWrong : ChangeSpec := { name := "fnExactResidualOf", fn := fun _ => fun
  | [d1, d2, d3] => { results := [.lit (.bool false)], args := [d1, d2, d3] }
  | _ => none }
def FnExactResidualOfWrongFalsely : Prop := fnExactResidualOfRow.holds Try.pinned (OpenSpec.ofChange fnExactResidualOfWrong)

/- THE SECOND FORM. 'bulk': how many values and letters a reading holds, each counted each time it is reached (what is shared counts as often as it is met; a slice's spare places count too). A statement '..UptoSaid' is the law's where the arguments, and the package variables that the reading takes, are together of bulk at most 1048576: NARROWER than '..Said'. Prove '..Said' where nothing that the law and all that it calls make is longer than what came in: it says more and counts as full. Else prove '..UptoSaid'. A law counts once. -/
mutual
def uptoBulk {H : Type} : DataW H → Nat
  | .lit (.string bytes) => bytes.length + 1
  | .lit _ => 1
  | .nil => 1
  | .ptr d => uptoBulk d + 1
  | .slice elems spare => uptoBulkAll elems + uptoBulkAll spare + 1
  | .agg parts => uptoBulkAll parts + 1
  | .iface _ d => uptoBulk d + 1
  | .map entries => uptoBulkEntries entries + 1
  | .held _ => 1
def uptoBulkAll {H : Type} : List (DataW H) → Nat
  | [] => 0
  | d :: r => uptoBulk d + uptoBulkAll r
def uptoBulkEntries {H : Type} : List (Lit × DataW H) → Nat
  | [] => 0
  | x :: r => uptoBulkEntry x + uptoBulkEntries r
def uptoBulkEntry {H : Type} : Lit × DataW H → Nat
  | (.string bytes, d) => bytes.length + uptoBulk d + 1
  | (_, d) => uptoBulk d + 1
 end
def uptoSmall : (H : Type) → List (DataW H) → Bool := fun _ ds => decide (uptoBulkAll ds ≤ 1048576)
def OpenSpec.upto (s : _root_.Go.ChangeSpec) : _root_.Go.OpenSpec := { _root_.Go.OpenSpec.ofChange s with cond := some uptoSmall }

/-- 'laws.FnExactIsInRing', WHERE WHAT IT READS IS OF BULK AT MOST 1048576: true; the input reads as it did. -/
def fnExactIsInRingUptoRow : OpenClaim := { program := "ythepcmppibibfaa", sum := "8add17b3e41fe5e28d44f35c236f95e34a443b4793f3d194345d966ef6b0c918", func := "loop.example/g01000/laws.FnExactIsInRing", spec := "fnExactIsInRing", unfollowed := true, recurses := true, apart := false, narrowed := true }
def FnExactIsInRingUptoSaid : Prop := fnExactIsInRingUptoRow.holds Try.pinned (OpenSpec.upto fnExactIsInRingSpec)

/-- 'laws.FnExactReduceToRing', WHERE WHAT IT READS IS OF BULK AT MOST 1048576: true; the input reads as it did. -/
def fnExactReduceToRingUptoRow : OpenClaim := { program := "ythepcmppibibfaa", sum := "8add17b3e41fe5e28d44f35c236f95e34a443b4793f3d194345d966ef6b0c918", func := "loop.example/g01000/laws.FnExactReduceToRing", spec := "fnExactReduceToRing", unfollowed := true, recurses := true, apart := false, narrowed := true }
def FnExactReduceToRingUptoSaid : Prop := fnExactReduceToRingUptoRow.holds Try.pinned (OpenSpec.upto fnExactReduceToRingSpec)

/-- 'laws.FnExactMultiplyModular', WHERE WHAT IT READS IS OF BULK AT MOST 1048576: true; the input reads as it did. -/
def fnExactMultiplyModularUptoRow : OpenClaim := { program := "ythepcmppibibfaa", sum := "8add17b3e41fe5e28d44f35c236f95e34a443b4793f3d194345d966ef6b0c918", func := "loop.example/g01000/laws.FnExactMultiplyModular", spec := "fnExactMultiplyModular", unfollowed := true, recurses := true, apart := false, narrowed := true }
def FnExactMultiplyModularUptoSaid : Prop := fnExactMultiplyModularUptoRow.holds Try.pinned (OpenSpec.upto fnExactMultiplyModularSpec)

/-- 'laws.FnExactDivideModular', WHERE WHAT IT READS IS OF BULK AT MOST 1048576: true; the input reads as it did. -/
def fnExactDivideModularUptoRow : OpenClaim := { program := "ythepcmppibibfaa", sum := "8add17b3e41fe5e28d44f35c236f95e34a443b4793f3d194345d966ef6b0c918", func := "loop.example/g01000/laws.FnExactDivideModular", spec := "fnExactDivideModular", unfollowed := true, recurses := true, apart := false, narrowed := true }
def FnExactDivideModularUptoSaid : Prop := fnExactDivideModularUptoRow.holds Try.pinned (OpenSpec.upto fnExactDivideModularSpec)

/-- 'laws.FnExactCommonModular', WHERE WHAT IT READS IS OF BULK AT MOST 1048576: true; the input reads as it did. -/
def fnExactCommonModularUptoRow : OpenClaim := { program := "ythepcmppibibfaa", sum := "8add17b3e41fe5e28d44f35c236f95e34a443b4793f3d194345d966ef6b0c918", func := "loop.example/g01000/laws.FnExactCommonModular", spec := "fnExactCommonModular", unfollowed := true, recurses := true, apart := false, narrowed := true }
def FnExactCommonModularUptoSaid : Prop := fnExactCommonModularUptoRow.holds Try.pinned (OpenSpec.upto fnExactCommonModularSpec)

/-- 'laws.FnExactIsSquareFree', WHERE WHAT IT READS IS OF BULK AT MOST 1048576: true; the input reads as it did. -/
def fnExactIsSquareFreeUptoRow : OpenClaim := { program := "ythepcmppibibfaa", sum := "8add17b3e41fe5e28d44f35c236f95e34a443b4793f3d194345d966ef6b0c918", func := "loop.example/g01000/laws.FnExactIsSquareFree", spec := "fnExactIsSquareFree", unfollowed := true, recurses := true, apart := false, narrowed := true }
def FnExactIsSquareFreeUptoSaid : Prop := fnExactIsSquareFreeUptoRow.holds Try.pinned (OpenSpec.upto fnExactIsSquareFreeSpec)

/-- 'laws.FnExactPowerOfX', WHERE WHAT IT READS IS OF BULK AT MOST 1048576: true; the input reads as it did. -/
def fnExactPowerOfXUptoRow : OpenClaim := { program := "ythepcmppibibfaa", sum := "8add17b3e41fe5e28d44f35c236f95e34a443b4793f3d194345d966ef6b0c918", func := "loop.example/g01000/laws.FnExactPowerOfX", spec := "fnExactPowerOfX", unfollowed := true, recurses := true, apart := false, narrowed := true }
def FnExactPowerOfXUptoSaid : Prop := fnExactPowerOfXUptoRow.holds Try.pinned (OpenSpec.upto fnExactPowerOfXSpec)

/-- 'laws.FnExactLiftRoot', WHERE WHAT IT READS IS OF BULK AT MOST 1048576: true; the input reads as it did. -/
def fnExactLiftRootUptoRow : OpenClaim := { program := "ythepcmppibibfaa", sum := "8add17b3e41fe5e28d44f35c236f95e34a443b4793f3d194345d966ef6b0c918", func := "loop.example/g01000/laws.FnExactLiftRoot", spec := "fnExactLiftRoot", unfollowed := true, recurses := true, apart := false, narrowed := true }
def FnExactLiftRootUptoSaid : Prop := fnExactLiftRootUptoRow.holds Try.pinned (OpenSpec.upto fnExactLiftRootSpec)

/-- 'laws.FnExactSimpleRoots', WHERE WHAT IT READS IS OF BULK AT MOST 1048576: true; the input reads as it did. -/
def fnExactSimpleRootsUptoRow : OpenClaim := { program := "ythepcmppibibfaa", sum := "8add17b3e41fe5e28d44f35c236f95e34a443b4793f3d194345d966ef6b0c918", func := "loop.example/g01000/laws.FnExactSimpleRoots", spec := "fnExactSimpleRoots", unfollowed := true, recurses := true, apart := false, narrowed := true }
def FnExactSimpleRootsUptoSaid : Prop := fnExactSimpleRootsUptoRow.holds Try.pinned (OpenSpec.upto fnExactSimpleRootsSpec)

/-- 'laws.FnExactCountRootsInRing', WHERE WHAT IT READS IS OF BULK AT MOST 1048576: true; the input reads as it did. -/
def fnExactCountRootsInRingUptoRow : OpenClaim := { program := "ythepcmppibibfaa", sum := "8add17b3e41fe5e28d44f35c236f95e34a443b4793f3d194345d966ef6b0c918", func := "loop.example/g01000/laws.FnExactCountRootsInRing", spec := "fnExactCountRootsInRing", unfollowed := true, recurses := true, apart := false, narrowed := true }
def FnExactCountRootsInRingUptoSaid : Prop := fnExactCountRootsInRingUptoRow.holds Try.pinned (OpenSpec.upto fnExactCountRootsInRingSpec)

/-- 'laws.FnExactProductOf', WHERE WHAT IT READS IS OF BULK AT MOST 1048576: true; the input reads as it did. -/
def fnExactProductOfUptoRow : OpenClaim := { program := "ythepcmppibibfaa", sum := "8add17b3e41fe5e28d44f35c236f95e34a443b4793f3d194345d966ef6b0c918", func := "loop.example/g01000/laws.FnExactProductOf", spec := "fnExactProductOf", unfollowed := true, recurses := true, apart := false, narrowed := true }
def FnExactProductOfUptoSaid : Prop := fnExactProductOfUptoRow.holds Try.pinned (OpenSpec.upto fnExactProductOfSpec)

/-- 'laws.FnExactResidualOf', WHERE WHAT IT READS IS OF BULK AT MOST 1048576: true; the input reads as it did. -/
def fnExactResidualOfUptoRow : OpenClaim := { program := "ythepcmppibibfaa", sum := "8add17b3e41fe5e28d44f35c236f95e34a443b4793f3d194345d966ef6b0c918", func := "loop.example/g01000/laws.FnExactResidualOf", spec := "fnExactResidualOf", unfollowed := true, recurses := true, apart := false, narrowed := true }
def FnExactResidualOfUptoSaid : Prop := fnExactResidualOfUptoRow.holds Try.pinned (OpenSpec.upto fnExactResidualOfSpec)

end Rows
end Go.Proofs.Ythepcmppibibfaa
