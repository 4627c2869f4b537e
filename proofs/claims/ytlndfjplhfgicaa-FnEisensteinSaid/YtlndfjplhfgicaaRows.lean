/-
  No cell of these rows narrows 'for every input' (looked for: loops, veiled, ifaces, maps, wideKeys, modest, calm, conditions, laid).
  DERIVED. THE GIVEN ROWS OF THIS SEAT. 10 by the template 'for every input the law returns true; each argument reads behind the call as it read before'; 0 by the template 'total and deterministic' (their statements: YtlndfjplhfgicaaTotals.lean).
  GIVEN WITH THE SEED: the statements are not yours to turn. If you find one false, say at which input.
  Laid BY PROGRAM, IN A SANDBOX (cutbox-rows.mjs): the forced cells as the released guide's own fill.sh prints them over the translation b3f9bf03e8a5c3ea… (all of the seat's roots in one cut). By AI agents, Wed Nov 11 2026. No macro, syntax, notation, axiom, sorry.
-/
import Derived.Test.YtlndfjplhfgicaaChecked
import GoSem.Claim
import GoSem.ClaimJoined
import GoSem.ClaimMapViews
import Derived.JoinedTies
import Derived.KernelRfl
namespace Go.Proofs.Ytlndfjplhfgicaa
/- THE CELL 'sum', in the pinned program and in every row, IS THE sha256 OF THE DUMP (.gsa) THAT YtlndfjplhfgicaaProg.lean LOADS. Nothing in Lean hashes anything: it is a label: what it is worth is what the hold of that sum in a sandbox is worth. -/
noncomputable def Try.pinned : Pinned := { name := "ytlndfjplhfgicaa", sum := "b3f9bf03e8a5c3eaa3ce77fc4e956c0f59511d3a3a628bce1172bd4b1274e79b", checked := Try.checked }
namespace Rows
def none {H : Type} : Left H := { results := [], args := [] }

/-- 'laws.FnExactDivisorsOf': WHATEVER THE INPUT: true; the input reads as it did. -/
def fnExactDivisorsOfSpec : ChangeSpec := { name := "fnExactDivisorsOf", fn := fun _ => fun
  | [d] => { results := [.lit (.bool true)], args := [d] }
  | _ => none }
def fnExactDivisorsOfRow : OpenClaim := { program := "ytlndfjplhfgicaa", sum := "b3f9bf03e8a5c3eaa3ce77fc4e956c0f59511d3a3a628bce1172bd4b1274e79b", func := "loop.example/g01000/laws.FnExactDivisorsOf", spec := "fnExactDivisorsOf", recurses := true, apart := false }
def FnExactDivisorsOfSaid : Prop := fnExactDivisorsOfRow.holds Try.pinned (OpenSpec.ofChange fnExactDivisorsOfSpec)

/-- ITS FALSE NEIGHBOUR: 'it returns false'. Refute it at one input. -/
def fnExactDivisorsOfWrong : ChangeSpec := { name := "fnExactDivisorsOf", fn := fun _ => fun
  | [d] => { results := [.lit (.bool false)], args := [d] }
  | _ => none }
def FnExactDivisorsOfWrongFalsely : Prop := fnExactDivisorsOfRow.holds Try.pinned (OpenSpec.ofChange fnExactDivisorsOfWrong)

/-- 'laws.FnFactors': WHATEVER THE INPUT: true; the input reads as it did. -/
def fnFactorsSpec : ChangeSpec := { name := "fnFactors", fn := fun _ => fun
  | [d] => { results := [.lit (.bool true)], args := [d] }
  | _ => none }
def fnFactorsRow : OpenClaim := { program := "ytlndfjplhfgicaa", sum := "b3f9bf03e8a5c3eaa3ce77fc4e956c0f59511d3a3a628bce1172bd4b1274e79b", func := "loop.example/g01000/laws.FnFactors", spec := "fnFactors", recurses := true, apart := false }
def FnFactorsSaid : Prop := fnFactorsRow.holds Try.pinned (OpenSpec.ofChange fnFactorsSpec)

/-- ITS FALSE NEIGHBOUR: 'it returns false'. Refute it at one input. -/
def fnFactorsWrong : ChangeSpec := { name := "fnFactors", fn := fun _ => fun
  | [d] => { results := [.lit (.bool false)], args := [d] }
  | _ => none }
def FnFactorsWrongFalsely : Prop := fnFactorsRow.holds Try.pinned (OpenSpec.ofChange fnFactorsWrong)

/-- 'laws.FnExactCountIrreducibles': WHATEVER THE INPUT: true; the input reads as it did. -/
def fnExactCountIrreduciblesSpec : ChangeSpec := { name := "fnExactCountIrreducibles", fn := fun _ => fun
  | [d1, d2] => { results := [.lit (.bool true)], args := [d1, d2] }
  | _ => none }
def fnExactCountIrreduciblesRow : OpenClaim := { program := "ytlndfjplhfgicaa", sum := "b3f9bf03e8a5c3eaa3ce77fc4e956c0f59511d3a3a628bce1172bd4b1274e79b", func := "loop.example/g01000/laws.FnExactCountIrreducibles", spec := "fnExactCountIrreducibles", recurses := true, apart := false }
def FnExactCountIrreduciblesSaid : Prop := fnExactCountIrreduciblesRow.holds Try.pinned (OpenSpec.ofChange fnExactCountIrreduciblesSpec)

/-- ITS FALSE NEIGHBOUR: 'it returns false'. Refute it at one input. -/
def fnExactCountIrreduciblesWrong : ChangeSpec := { name := "fnExactCountIrreducibles", fn := fun _ => fun
  | [d1, d2] => { results := [.lit (.bool false)], args := [d1, d2] }
  | _ => none }
def FnExactCountIrreduciblesWrongFalsely : Prop := fnExactCountIrreduciblesRow.holds Try.pinned (OpenSpec.ofChange fnExactCountIrreduciblesWrong)

/-- 'laws.FnExactCycleType': WHATEVER THE INPUT: true; the input reads as it did. -/
def fnExactCycleTypeSpec : ChangeSpec := { name := "fnExactCycleType", fn := fun _ => fun
  | [d] => { results := [.lit (.bool true)], args := [d] }
  | _ => none }
def fnExactCycleTypeRow : OpenClaim := { program := "ytlndfjplhfgicaa", sum := "b3f9bf03e8a5c3eaa3ce77fc4e956c0f59511d3a3a628bce1172bd4b1274e79b", func := "loop.example/g01000/laws.FnExactCycleType", spec := "fnExactCycleType", recurses := true, apart := false }
def FnExactCycleTypeSaid : Prop := fnExactCycleTypeRow.holds Try.pinned (OpenSpec.ofChange fnExactCycleTypeSpec)

/-- ITS FALSE NEIGHBOUR: 'it returns false'. Refute it at one input. -/
def fnExactCycleTypeWrong : ChangeSpec := { name := "fnExactCycleType", fn := fun _ => fun
  | [d] => { results := [.lit (.bool false)], args := [d] }
  | _ => none }
def FnExactCycleTypeWrongFalsely : Prop := fnExactCycleTypeRow.holds Try.pinned (OpenSpec.ofChange fnExactCycleTypeWrong)

/-- 'laws.FnExactRootsInRing': WHATEVER THE INPUT: true; the input reads as it did. -/
def fnExactRootsInRingSpec : ChangeSpec := { name := "fnExactRootsInRing", fn := fun _ => fun
  | [d1, d2] => { results := [.lit (.bool true)], args := [d1, d2] }
  | _ => none }
def fnExactRootsInRingRow : OpenClaim := { program := "ytlndfjplhfgicaa", sum := "b3f9bf03e8a5c3eaa3ce77fc4e956c0f59511d3a3a628bce1172bd4b1274e79b", func := "loop.example/g01000/laws.FnExactRootsInRing", spec := "fnExactRootsInRing", unfollowed := true, recurses := true, apart := false }
def FnExactRootsInRingSaid : Prop := fnExactRootsInRingRow.holds Try.pinned (OpenSpec.ofChange fnExactRootsInRingSpec)

/-- ITS FALSE NEIGHBOUR: 'it returns false'. Refute it at one input. -/
def fnExactRootsInRingWrong : ChangeSpec := { name := "fnExactRootsInRing", fn := fun _ => fun
  | [d1, d2] => { results := [.lit (.bool false)], args := [d1, d2] }
  | _ => none }
def FnExactRootsInRingWrongFalsely : Prop := fnExactRootsInRingRow.holds Try.pinned (OpenSpec.ofChange fnExactRootsInRingWrong)

/-- 'laws.FnExactIsRegular': WHATEVER THE INPUT: true; the input reads as it did. -/
def fnExactIsRegularSpec : ChangeSpec := { name := "fnExactIsRegular", fn := fun _ => fun
  | [d1, d2] => { results := [.lit (.bool true)], args := [d1, d2] }
  | _ => none }
def fnExactIsRegularRow : OpenClaim := { program := "ytlndfjplhfgicaa", sum := "b3f9bf03e8a5c3eaa3ce77fc4e956c0f59511d3a3a628bce1172bd4b1274e79b", func := "loop.example/g01000/laws.FnExactIsRegular", spec := "fnExactIsRegular", unfollowed := true, recurses := true, apart := false }
def FnExactIsRegularSaid : Prop := fnExactIsRegularRow.holds Try.pinned (OpenSpec.ofChange fnExactIsRegularSpec)

/-- ITS FALSE NEIGHBOUR: 'it returns false'. Refute it at one input. -/
def fnExactIsRegularWrong : ChangeSpec := { name := "fnExactIsRegular", fn := fun _ => fun
  | [d1, d2] => { results := [.lit (.bool false)], args := [d1, d2] }
  | _ => none }
def FnExactIsRegularWrongFalsely : Prop := fnExactIsRegularRow.holds Try.pinned (OpenSpec.ofChange fnExactIsRegularWrong)

/-- 'laws.FnModularDivisors': WHATEVER THE INPUT: true; the input reads as it did. -/
def fnModularDivisorsSpec : ChangeSpec := { name := "fnModularDivisors", fn := fun _ => fun
  | [d] => { results := [.lit (.bool true)], args := [d] }
  | _ => none }
def fnModularDivisorsRow : OpenClaim := { program := "ytlndfjplhfgicaa", sum := "b3f9bf03e8a5c3eaa3ce77fc4e956c0f59511d3a3a628bce1172bd4b1274e79b", func := "loop.example/g01000/laws.FnModularDivisors", spec := "fnModularDivisors", unfollowed := true, recurses := true, apart := false }
def FnModularDivisorsSaid : Prop := fnModularDivisorsRow.holds Try.pinned (OpenSpec.ofChange fnModularDivisorsSpec)

/-- ITS FALSE NEIGHBOUR: 'it returns false'. Refute it at one input. -/
def fnModularDivisorsWrong : ChangeSpec := { name := "fnModularDivisors", fn := fun _ => fun
  | [d] => { results := [.lit (.bool false)], args := [d] }
  | _ => none }
def FnModularDivisorsWrongFalsely : Prop := fnModularDivisorsRow.holds Try.pinned (OpenSpec.ofChange fnModularDivisorsWrong)

/-- 'laws.FnModularQuotients': WHATEVER THE INPUT: true; the input reads as it did. -/
def fnModularQuotientsSpec : ChangeSpec := { name := "fnModularQuotients", fn := fun _ => fun
  | [d] => { results := [.lit (.bool true)], args := [d] }
  | _ => none }
def fnModularQuotientsRow : OpenClaim := { program := "ytlndfjplhfgicaa", sum := "b3f9bf03e8a5c3eaa3ce77fc4e956c0f59511d3a3a628bce1172bd4b1274e79b", func := "loop.example/g01000/laws.FnModularQuotients", spec := "fnModularQuotients", unfollowed := true, recurses := true, apart := false }
def FnModularQuotientsSaid : Prop := fnModularQuotientsRow.holds Try.pinned (OpenSpec.ofChange fnModularQuotientsSpec)

/-- ITS FALSE NEIGHBOUR: 'it returns false'. Refute it at one input. -/
def fnModularQuotientsWrong : ChangeSpec := { name := "fnModularQuotients", fn := fun _ => fun
  | [d] => { results := [.lit (.bool false)], args := [d] }
  | _ => none }
def FnModularQuotientsWrongFalsely : Prop := fnModularQuotientsRow.holds Try.pinned (OpenSpec.ofChange fnModularQuotientsWrong)

/-- 'laws.FnModularRoots': WHATEVER THE INPUT: true; the input reads as it did. -/
def fnModularRootsSpec : ChangeSpec := { name := "fnModularRoots", fn := fun _ => fun
  | [d] => { results := [.lit (.bool true)], args := [d] }
  | _ => none }
def fnModularRootsRow : OpenClaim := { program := "ytlndfjplhfgicaa", sum := "b3f9bf03e8a5c3eaa3ce77fc4e956c0f59511d3a3a628bce1172bd4b1274e79b", func := "loop.example/g01000/laws.FnModularRoots", spec := "fnModularRoots", unfollowed := true, recurses := true, apart := false }
def FnModularRootsSaid : Prop := fnModularRootsRow.holds Try.pinned (OpenSpec.ofChange fnModularRootsSpec)

/-- ITS FALSE NEIGHBOUR: 'it returns false'. Refute it at one input. -/
def fnModularRootsWrong : ChangeSpec := { name := "fnModularRoots", fn := fun _ => fun
  | [d] => { results := [.lit (.bool false)], args := [d] }
  | _ => none }
def FnModularRootsWrongFalsely : Prop := fnModularRootsRow.holds Try.pinned (OpenSpec.ofChange fnModularRootsWrong)

/-- 'laws.FnEisenstein': WHATEVER THE INPUT: true; the input reads as it did. -/
def fnEisensteinSpec : ChangeSpec := { name := "fnEisenstein", fn := fun _ => fun
  | [d] => { results := [.lit (.bool true)], args := [d] }
  | _ => none }
def fnEisensteinRow : OpenClaim := { program := "ytlndfjplhfgicaa", sum := "b3f9bf03e8a5c3eaa3ce77fc4e956c0f59511d3a3a628bce1172bd4b1274e79b", func := "loop.example/g01000/laws.FnEisenstein", spec := "fnEisenstein", unfollowed := true, recurses := true, apart := false }
def FnEisensteinSaid : Prop := fnEisensteinRow.holds Try.pinned (OpenSpec.ofChange fnEisensteinSpec)

/-- ITS FALSE NEIGHBOUR: 'it returns false'. Refute it at one input. -/
def fnEisensteinWrong : ChangeSpec := { name := "fnEisenstein", fn := fun _ => fun
  | [d] => { results := [.lit (.bool false)], args := [d] }
  | _ => none }
def FnEisensteinWrongFalsely : Prop := fnEisensteinRow.holds Try.pinned (OpenSpec.ofChange fnEisensteinWrong)

/- THE SECOND FORM. 'bulk': how many values and letters a reading holds, each counted each time it is reached (what is shared counts as often as it is met; a slice's spare places count too). A statement '..UptoSaid' is the law's where the arguments, and the package variables that the reading takes, are together of bulk at most 1048576: NARROWER than '..Said'. Prove '..Said' where nothing that the law and all that it calls make is longer than what came in: it says more and counts as full. Else prove '..UptoSaid'. A law counts once. -/
mutual
def uptoBulk {H : Type} : DataW H → Nat
  | .lit (.string bytes) => bytes.length + 1
  | .lit _ => 1
  | .nil => 1
  | .ptr d => uptoBulk d + 1
  | .slice elems spare => uptoBulkAll elems + uptoBulkAll spare + 1
  | .agg parts => uptoBulkAll parts + 1
  | .iface _ d => uptoBulk d + 1
  | .map entries => uptoBulkEntries entries + 1
  | .held _ => 1
def uptoBulkAll {H : Type} : List (DataW H) → Nat
  | [] => 0
  | d :: r => uptoBulk d + uptoBulkAll r
def uptoBulkEntries {H : Type} : List (Lit × DataW H) → Nat
  | [] => 0
  | x :: r => uptoBulkEntry x + uptoBulkEntries r
def uptoBulkEntry {H : Type} : Lit × DataW H → Nat
  | (.string bytes, d) => bytes.length + uptoBulk d + 1
  | (_, d) => uptoBulk d + 1
 end
def uptoSmall : (H : Type) → List (DataW H) → Bool := fun _ ds => decide (uptoBulkAll ds ≤ 1048576)
def OpenSpec.upto (s : _root_.Go.ChangeSpec) : _root_.Go.OpenSpec := { _root_.Go.OpenSpec.ofChange s with cond := some uptoSmall }

/-- 'laws.FnExactDivisorsOf', WHERE WHAT IT READS IS OF BULK AT MOST 1048576: true; the input reads as it did. -/
def fnExactDivisorsOfUptoRow : OpenClaim := { program := "ytlndfjplhfgicaa", sum := "b3f9bf03e8a5c3eaa3ce77fc4e956c0f59511d3a3a628bce1172bd4b1274e79b", func := "loop.example/g01000/laws.FnExactDivisorsOf", spec := "fnExactDivisorsOf", recurses := true, apart := false, narrowed := true }
def FnExactDivisorsOfUptoSaid : Prop := fnExactDivisorsOfUptoRow.holds Try.pinned (OpenSpec.upto fnExactDivisorsOfSpec)

/-- 'laws.FnFactors', WHERE WHAT IT READS IS OF BULK AT MOST 1048576: true; the input reads as it did. -/
def fnFactorsUptoRow : OpenClaim := { program := "ytlndfjplhfgicaa", sum := "b3f9bf03e8a5c3eaa3ce77fc4e956c0f59511d3a3a628bce1172bd4b1274e79b", func := "loop.example/g01000/laws.FnFactors", spec := "fnFactors", recurses := true, apart := false, narrowed := true }
def FnFactorsUptoSaid : Prop := fnFactorsUptoRow.holds Try.pinned (OpenSpec.upto fnFactorsSpec)

/-- 'laws.FnExactCountIrreducibles', WHERE WHAT IT READS IS OF BULK AT MOST 1048576: true; the input reads as it did. -/
def fnExactCountIrreduciblesUptoRow : OpenClaim := { program := "ytlndfjplhfgicaa", sum := "b3f9bf03e8a5c3eaa3ce77fc4e956c0f59511d3a3a628bce1172bd4b1274e79b", func := "loop.example/g01000/laws.FnExactCountIrreducibles", spec := "fnExactCountIrreducibles", recurses := true, apart := false, narrowed := true }
def FnExactCountIrreduciblesUptoSaid : Prop := fnExactCountIrreduciblesUptoRow.holds Try.pinned (OpenSpec.upto fnExactCountIrreduciblesSpec)

/-- 'laws.FnExactCycleType', WHERE WHAT IT READS IS OF BULK AT MOST 1048576: true; the input reads as it did. -/
def fnExactCycleTypeUptoRow : OpenClaim := { program := "ytlndfjplhfgicaa", sum := "b3f9bf03e8a5c3eaa3ce77fc4e956c0f59511d3a3a628bce1172bd4b1274e79b", func := "loop.example/g01000/laws.FnExactCycleType", spec := "fnExactCycleType", recurses := true, apart := false, narrowed := true }
def FnExactCycleTypeUptoSaid : Prop := fnExactCycleTypeUptoRow.holds Try.pinned (OpenSpec.upto fnExactCycleTypeSpec)

/-- 'laws.FnExactRootsInRing', WHERE WHAT IT READS IS OF BULK AT MOST 1048576: true; the input reads as it did. -/
def fnExactRootsInRingUptoRow : OpenClaim := { program := "ytlndfjplhfgicaa", sum := "b3f9bf03e8a5c3eaa3ce77fc4e956c0f59511d3a3a628bce1172bd4b1274e79b", func := "loop.example/g01000/laws.FnExactRootsInRing", spec := "fnExactRootsInRing", unfollowed := true, recurses := true, apart := false, narrowed := true }
def FnExactRootsInRingUptoSaid : Prop := fnExactRootsInRingUptoRow.holds Try.pinned (OpenSpec.upto fnExactRootsInRingSpec)

/-- 'laws.FnExactIsRegular', WHERE WHAT IT READS IS OF BULK AT MOST 1048576: true; the input reads as it did. -/
def fnExactIsRegularUptoRow : OpenClaim := { program := "ytlndfjplhfgicaa", sum := "b3f9bf03e8a5c3eaa3ce77fc4e956c0f59511d3a3a628bce1172bd4b1274e79b", func := "loop.example/g01000/laws.FnExactIsRegular", spec := "fnExactIsRegular", unfollowed := true, recurses := true, apart := false, narrowed := true }
def FnExactIsRegularUptoSaid : Prop := fnExactIsRegularUptoRow.holds Try.pinned (OpenSpec.upto fnExactIsRegularSpec)

/-- 'laws.FnModularDivisors', WHERE WHAT IT READS IS OF BULK AT MOST 1048576: true; the input reads as it did. -/
def fnModularDivisorsUptoRow : OpenClaim := { program := "ytlndfjplhfgicaa", sum := "b3f9bf03e8a5c3eaa3ce77fc4e956c0f59511d3a3a628bce1172bd4b1274e79b", func := "loop.example/g01000/laws.FnModularDivisors", spec := "fnModularDivisors", unfollowed := true, recurses := true, apart := false, narrowed := true }
def FnModularDivisorsUptoSaid : Prop := fnModularDivisorsUptoRow.holds Try.pinned (OpenSpec.upto fnModularDivisorsSpec)

/-- 'laws.FnModularQuotients', WHERE WHAT IT READS IS OF BULK AT MOST 1048576: true; the input reads as it did. -/
def fnModularQuotientsUptoRow : OpenClaim := { program := "ytlndfjplhfgicaa", sum := "b3f9bf03e8a5c3eaa3ce77fc4e956c0f59511d3a3a628bce1172bd4b1274e79b", func := "loop.example/g01000/laws.FnModularQuotients", spec := "fnModularQuotients", unfollowed := true, recurses := true, apart := false, narrowed := true }
def FnModularQuotientsUptoSaid : Prop := fnModularQuotientsUptoRow.holds Try.pinned (OpenSpec.upto fnModularQuotientsSpec)

/-- 'laws.FnModularRoots', WHERE WHAT IT READS IS OF BULK AT MOST 1048576: true; the input reads as it did. -/
def fnModularRootsUptoRow : OpenClaim := { program := "ytlndfjplhfgicaa", sum := "b3f9bf03e8a5c3eaa3ce77fc4e956c0f59511d3a3a628bce1172bd4b1274e79b", func := "loop.example/g01000/laws.FnModularRoots", spec := "fnModularRoots", unfollowed := true, recurses := true, apart := false, narrowed := true }
def FnModularRootsUptoSaid : Prop := fnModularRootsUptoRow.holds Try.pinned (OpenSpec.upto fnModularRootsSpec)

/-- 'laws.FnEisenstein', WHERE WHAT IT READS IS OF BULK AT MOST 1048576: true; the input reads as it did. -/
def fnEisensteinUptoRow : OpenClaim := { program := "ytlndfjplhfgicaa", sum := "b3f9bf03e8a5c3eaa3ce77fc4e956c0f59511d3a3a628bce1172bd4b1274e79b", func := "loop.example/g01000/laws.FnEisenstein", spec := "fnEisenstein", unfollowed := true, recurses := true, apart := false, narrowed := true }
def FnEisensteinUptoSaid : Prop := fnEisensteinUptoRow.holds Try.pinned (OpenSpec.upto fnEisensteinSpec)

end Rows
end Go.Proofs.Ytlndfjplhfgicaa
