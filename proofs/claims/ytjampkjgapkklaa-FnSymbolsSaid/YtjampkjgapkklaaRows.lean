/-
  No cell of these rows narrows 'for every input' (looked for: loops, veiled, ifaces, maps, wideKeys, modest, calm, conditions, laid).
  DERIVED. THE GIVEN ROWS OF THIS SEAT. 12 by the template 'for every input the law returns true; each argument reads behind the call as it read before'; 0 by the template 'total and deterministic' (their statements: YtjampkjgapkklaaTotals.lean).
  GIVEN WITH THE SEED: the statements are not yours to turn. If you find one false, say at which input.
  Laid BY PROGRAM, IN A SANDBOX (cutbox-rows.mjs): the forced cells as the released guide's own fill.sh prints them over the translation 32db636ca6f51e4f… (all of the seat's roots in one cut). By AI agents, Wed Nov 11 2026. No macro, syntax, notation, axiom, sorry.
-/
import Derived.Test.YtjampkjgapkklaaChecked
import GoSem.Claim
import GoSem.ClaimJoined
import GoSem.ClaimMapViews
import Derived.JoinedTies
import Derived.KernelRfl
namespace Go.Proofs.Ytjampkjgapkklaa
/- THE CELL 'sum', in the pinned program and in every row, IS THE sha256 OF THE DUMP (.gsa) THAT YtjampkjgapkklaaProg.lean LOADS. Nothing in Lean hashes anything: it is a label: what it is worth is what the hold of that sum in a sandbox is worth. -/
noncomputable def Try.pinned : Pinned := { name := "ytjampkjgapkklaa", sum := "32db636ca6f51e4f69d2495c29490404d9417fb19093343f01f55e9edf7cc6d1", checked := Try.checked }
namespace Rows
def none {H : Type} : Left H := { results := [], args := [] }

/-- 'laws.FnExactFindConic': WHATEVER THE INPUT: true; the input reads as it did. -/
def fnExactFindConicSpec : ChangeSpec := { name := "fnExactFindConic", fn := fun _ => fun
  | [d1, d2, d3] => { results := [.lit (.bool true)], args := [d1, d2, d3] }
  | _ => none }
def fnExactFindConicRow : OpenClaim := { program := "ytjampkjgapkklaa", sum := "32db636ca6f51e4f69d2495c29490404d9417fb19093343f01f55e9edf7cc6d1", func := "loop.example/g01000/laws.FnExactFindConic", spec := "fnExactFindConic", apart := false }
def FnExactFindConicSaid : Prop := fnExactFindConicRow.holds Try.pinned (OpenSpec.ofChange fnExactFindConicSpec)

/-- ITS FALSE NEIGHBOUR: 'it returns false'. Refute it at one input. -/
def fnExactFindConicWrong : ChangeSpec := { name := "fnExactFindConic", fn := fun _ => fun
  | [d1, d2, d3] => { results := [.lit (.bool false)], args := [d1, d2, d3] }
  | _ => none }
def FnExactFindConicWrongFalsely : Prop := fnExactFindConicRow.holds Try.pinned (OpenSpec.ofChange fnExactFindConicWrong)

/-- 'laws.FnExactCountSquareFrees': WHATEVER THE INPUT: true; the input reads as it did. -/
def fnExactCountSquareFreesSpec : ChangeSpec := { name := "fnExactCountSquareFrees", fn := fun _ => fun
  | [d1, d2] => { results := [.lit (.bool true)], args := [d1, d2] }
  | _ => none }
def fnExactCountSquareFreesRow : OpenClaim := { program := "ytjampkjgapkklaa", sum := "32db636ca6f51e4f69d2495c29490404d9417fb19093343f01f55e9edf7cc6d1", func := "loop.example/g01000/laws.FnExactCountSquareFrees", spec := "fnExactCountSquareFrees", apart := false }
def FnExactCountSquareFreesSaid : Prop := fnExactCountSquareFreesRow.holds Try.pinned (OpenSpec.ofChange fnExactCountSquareFreesSpec)

/-- ITS FALSE NEIGHBOUR: 'it returns false'. Refute it at one input. -/
def fnExactCountSquareFreesWrong : ChangeSpec := { name := "fnExactCountSquareFrees", fn := fun _ => fun
  | [d1, d2] => { results := [.lit (.bool false)], args := [d1, d2] }
  | _ => none }
def FnExactCountSquareFreesWrongFalsely : Prop := fnExactCountSquareFreesRow.holds Try.pinned (OpenSpec.ofChange fnExactCountSquareFreesWrong)

/-- 'laws.FnExactJacobiSymbol': WHATEVER THE INPUT: true; the input reads as it did. -/
def fnExactJacobiSymbolSpec : ChangeSpec := { name := "fnExactJacobiSymbol", fn := fun _ => fun
  | [d1, d2] => { results := [.lit (.bool true)], args := [d1, d2] }
  | _ => none }
def fnExactJacobiSymbolRow : OpenClaim := { program := "ytjampkjgapkklaa", sum := "32db636ca6f51e4f69d2495c29490404d9417fb19093343f01f55e9edf7cc6d1", func := "loop.example/g01000/laws.FnExactJacobiSymbol", spec := "fnExactJacobiSymbol", apart := false }
def FnExactJacobiSymbolSaid : Prop := fnExactJacobiSymbolRow.holds Try.pinned (OpenSpec.ofChange fnExactJacobiSymbolSpec)

/-- ITS FALSE NEIGHBOUR: 'it returns false'. Refute it at one input. -/
def fnExactJacobiSymbolWrong : ChangeSpec := { name := "fnExactJacobiSymbol", fn := fun _ => fun
  | [d1, d2] => { results := [.lit (.bool false)], args := [d1, d2] }
  | _ => none }
def FnExactJacobiSymbolWrongFalsely : Prop := fnExactJacobiSymbolRow.holds Try.pinned (OpenSpec.ofChange fnExactJacobiSymbolWrong)

/-- 'laws.FnExactSquareClass': WHATEVER THE INPUT: true; the input reads as it did. -/
def fnExactSquareClassSpec : ChangeSpec := { name := "fnExactSquareClass", fn := fun _ => fun
  | [d1, d2] => { results := [.lit (.bool true)], args := [d1, d2] }
  | _ => none }
def fnExactSquareClassRow : OpenClaim := { program := "ytjampkjgapkklaa", sum := "32db636ca6f51e4f69d2495c29490404d9417fb19093343f01f55e9edf7cc6d1", func := "loop.example/g01000/laws.FnExactSquareClass", spec := "fnExactSquareClass", apart := false }
def FnExactSquareClassSaid : Prop := fnExactSquareClassRow.holds Try.pinned (OpenSpec.ofChange fnExactSquareClassSpec)

/-- ITS FALSE NEIGHBOUR: 'it returns false'. Refute it at one input. -/
def fnExactSquareClassWrong : ChangeSpec := { name := "fnExactSquareClass", fn := fun _ => fun
  | [d1, d2] => { results := [.lit (.bool false)], args := [d1, d2] }
  | _ => none }
def FnExactSquareClassWrongFalsely : Prop := fnExactSquareClassRow.holds Try.pinned (OpenSpec.ofChange fnExactSquareClassWrong)

/-- 'laws.FnExactHilbertSymbol': WHATEVER THE INPUT: true; the input reads as it did. -/
def fnExactHilbertSymbolSpec : ChangeSpec := { name := "fnExactHilbertSymbol", fn := fun _ => fun
  | [d1, d2, d3] => { results := [.lit (.bool true)], args := [d1, d2, d3] }
  | _ => none }
def fnExactHilbertSymbolRow : OpenClaim := { program := "ytjampkjgapkklaa", sum := "32db636ca6f51e4f69d2495c29490404d9417fb19093343f01f55e9edf7cc6d1", func := "loop.example/g01000/laws.FnExactHilbertSymbol", spec := "fnExactHilbertSymbol", apart := false }
def FnExactHilbertSymbolSaid : Prop := fnExactHilbertSymbolRow.holds Try.pinned (OpenSpec.ofChange fnExactHilbertSymbolSpec)

/-- ITS FALSE NEIGHBOUR: 'it returns false'. Refute it at one input. -/
def fnExactHilbertSymbolWrong : ChangeSpec := { name := "fnExactHilbertSymbol", fn := fun _ => fun
  | [d1, d2, d3] => { results := [.lit (.bool false)], args := [d1, d2, d3] }
  | _ => none }
def FnExactHilbertSymbolWrongFalsely : Prop := fnExactHilbertSymbolRow.holds Try.pinned (OpenSpec.ofChange fnExactHilbertSymbolWrong)

/-- 'laws.FnExactPrimitiveRoot': WHATEVER THE INPUT: true; the input reads as it did. -/
def fnExactPrimitiveRootSpec : ChangeSpec := { name := "fnExactPrimitiveRoot", fn := fun _ => fun
  | [d] => { results := [.lit (.bool true)], args := [d] }
  | _ => none }
def fnExactPrimitiveRootRow : OpenClaim := { program := "ytjampkjgapkklaa", sum := "32db636ca6f51e4f69d2495c29490404d9417fb19093343f01f55e9edf7cc6d1", func := "loop.example/g01000/laws.FnExactPrimitiveRoot", spec := "fnExactPrimitiveRoot", apart := false }
def FnExactPrimitiveRootSaid : Prop := fnExactPrimitiveRootRow.holds Try.pinned (OpenSpec.ofChange fnExactPrimitiveRootSpec)

/-- ITS FALSE NEIGHBOUR: 'it returns false'. Refute it at one input. -/
def fnExactPrimitiveRootWrong : ChangeSpec := { name := "fnExactPrimitiveRoot", fn := fun _ => fun
  | [d] => { results := [.lit (.bool false)], args := [d] }
  | _ => none }
def FnExactPrimitiveRootWrongFalsely : Prop := fnExactPrimitiveRootRow.holds Try.pinned (OpenSpec.ofChange fnExactPrimitiveRootWrong)

/-- 'laws.FnExactBadPrimes': WHATEVER THE INPUT: true; the input reads as it did. -/
def fnExactBadPrimesSpec : ChangeSpec := { name := "fnExactBadPrimes", fn := fun _ => fun
  | [d1, d2] => { results := [.lit (.bool true)], args := [d1, d2] }
  | _ => none }
def fnExactBadPrimesRow : OpenClaim := { program := "ytjampkjgapkklaa", sum := "32db636ca6f51e4f69d2495c29490404d9417fb19093343f01f55e9edf7cc6d1", func := "loop.example/g01000/laws.FnExactBadPrimes", spec := "fnExactBadPrimes", apart := false }
def FnExactBadPrimesSaid : Prop := fnExactBadPrimesRow.holds Try.pinned (OpenSpec.ofChange fnExactBadPrimesSpec)

/-- ITS FALSE NEIGHBOUR: 'it returns false'. Refute it at one input. -/
def fnExactBadPrimesWrong : ChangeSpec := { name := "fnExactBadPrimes", fn := fun _ => fun
  | [d1, d2] => { results := [.lit (.bool false)], args := [d1, d2] }
  | _ => none }
def FnExactBadPrimesWrongFalsely : Prop := fnExactBadPrimesRow.holds Try.pinned (OpenSpec.ofChange fnExactBadPrimesWrong)

/-- 'laws.FnExactSymbolTable': WHATEVER THE INPUT: true; the input reads as it did. -/
def fnExactSymbolTableSpec : ChangeSpec := { name := "fnExactSymbolTable", fn := fun _ => fun
  | [d1, d2] => { results := [.lit (.bool true)], args := [d1, d2] }
  | _ => none }
def fnExactSymbolTableRow : OpenClaim := { program := "ytjampkjgapkklaa", sum := "32db636ca6f51e4f69d2495c29490404d9417fb19093343f01f55e9edf7cc6d1", func := "loop.example/g01000/laws.FnExactSymbolTable", spec := "fnExactSymbolTable", apart := false }
def FnExactSymbolTableSaid : Prop := fnExactSymbolTableRow.holds Try.pinned (OpenSpec.ofChange fnExactSymbolTableSpec)

/-- ITS FALSE NEIGHBOUR: 'it returns false'. Refute it at one input. -/
def fnExactSymbolTableWrong : ChangeSpec := { name := "fnExactSymbolTable", fn := fun _ => fun
  | [d1, d2] => { results := [.lit (.bool false)], args := [d1, d2] }
  | _ => none }
def FnExactSymbolTableWrongFalsely : Prop := fnExactSymbolTableRow.holds Try.pinned (OpenSpec.ofChange fnExactSymbolTableWrong)

/-- 'laws.FnExactHasConic': WHATEVER THE INPUT: true; the input reads as it did. -/
def fnExactHasConicSpec : ChangeSpec := { name := "fnExactHasConic", fn := fun _ => fun
  | [d1, d2] => { results := [.lit (.bool true)], args := [d1, d2] }
  | _ => none }
def fnExactHasConicRow : OpenClaim := { program := "ytjampkjgapkklaa", sum := "32db636ca6f51e4f69d2495c29490404d9417fb19093343f01f55e9edf7cc6d1", func := "loop.example/g01000/laws.FnExactHasConic", spec := "fnExactHasConic", apart := false }
def FnExactHasConicSaid : Prop := fnExactHasConicRow.holds Try.pinned (OpenSpec.ofChange fnExactHasConicSpec)

/-- ITS FALSE NEIGHBOUR: 'it returns false'. Refute it at one input. -/
def fnExactHasConicWrong : ChangeSpec := { name := "fnExactHasConic", fn := fun _ => fun
  | [d1, d2] => { results := [.lit (.bool false)], args := [d1, d2] }
  | _ => none }
def FnExactHasConicWrongFalsely : Prop := fnExactHasConicRow.holds Try.pinned (OpenSpec.ofChange fnExactHasConicWrong)

/-- 'laws.FnSymbols': WHATEVER THE INPUT: true; the input reads as it did. -/
def fnSymbolsSpec : ChangeSpec := { name := "fnSymbols", fn := fun _ => fun
  | [d] => { results := [.lit (.bool true)], args := [d] }
  | _ => none }
def fnSymbolsRow : OpenClaim := { program := "ytjampkjgapkklaa", sum := "32db636ca6f51e4f69d2495c29490404d9417fb19093343f01f55e9edf7cc6d1", func := "loop.example/g01000/laws.FnSymbols", spec := "fnSymbols", apart := false }
def FnSymbolsSaid : Prop := fnSymbolsRow.holds Try.pinned (OpenSpec.ofChange fnSymbolsSpec)

/-- ITS FALSE NEIGHBOUR: 'it returns false'. Refute it at one input. -/
def fnSymbolsWrong : ChangeSpec := { name := "fnSymbols", fn := fun _ => fun
  | [d] => { results := [.lit (.bool false)], args := [d] }
  | _ => none }
def FnSymbolsWrongFalsely : Prop := fnSymbolsRow.holds Try.pinned (OpenSpec.ofChange fnSymbolsWrong)

/-- 'laws.FnExactPadicOf': WHATEVER THE INPUT: true; the input reads as it did. -/
def fnExactPadicOfSpec : ChangeSpec := { name := "fnExactPadicOf", fn := fun _ => fun
  | [d1, d2] => { results := [.lit (.bool true)], args := [d1, d2] }
  | _ => none }
def fnExactPadicOfRow : OpenClaim := { program := "ytjampkjgapkklaa", sum := "32db636ca6f51e4f69d2495c29490404d9417fb19093343f01f55e9edf7cc6d1", func := "loop.example/g01000/laws.FnExactPadicOf", spec := "fnExactPadicOf", apart := false }
def FnExactPadicOfSaid : Prop := fnExactPadicOfRow.holds Try.pinned (OpenSpec.ofChange fnExactPadicOfSpec)

/-- ITS FALSE NEIGHBOUR: 'it returns false'. Refute it at one input. -/
def fnExactPadicOfWrong : ChangeSpec := { name := "fnExactPadicOf", fn := fun _ => fun
  | [d1, d2] => { results := [.lit (.bool false)], args := [d1, d2] }
  | _ => none }
def FnExactPadicOfWrongFalsely : Prop := fnExactPadicOfRow.holds Try.pinned (OpenSpec.ofChange fnExactPadicOfWrong)

/-- 'laws.FnExactDifferentOf': WHATEVER THE INPUT: true; the input reads as it did. -/
def fnExactDifferentOfSpec : ChangeSpec := { name := "fnExactDifferentOf", fn := fun _ => fun
  | [d1, d2] => { results := [.lit (.bool true)], args := [d1, d2] }
  | _ => none }
def fnExactDifferentOfRow : OpenClaim := { program := "ytjampkjgapkklaa", sum := "32db636ca6f51e4f69d2495c29490404d9417fb19093343f01f55e9edf7cc6d1", func := "loop.example/g01000/laws.FnExactDifferentOf", spec := "fnExactDifferentOf", unfollowed := true, recurses := true, apart := false }
def FnExactDifferentOfSaid : Prop := fnExactDifferentOfRow.holds Try.pinned (OpenSpec.ofChange fnExactDifferentOfSpec)

/-- ITS FALSE NEIGHBOUR: 'it returns false'. Refute it at one input. -/
def fnExactDifferentOfWrong : ChangeSpec := { name := "fnExactDifferentOf", fn := fun _ => fun
  | [d1, d2] => { results := [.lit (.bool false)], args := [d1, d2] }
  | _ => none }
def FnExactDifferentOfWrongFalsely : Prop := fnExactDifferentOfRow.holds Try.pinned (OpenSpec.ofChange fnExactDifferentOfWrong)

/- THE SECOND FORM. 'bulk': how many values and letters a reading holds, each counted each time it is reached (what is shared counts as often as it is met; a slice's spare places count too). A statement '..UptoSaid' is the law's where the arguments, and the package variables that the reading takes, are together of bulk at most 1048576: NARROWER than '..Said'. Prove '..Said' where nothing that the law and all that it calls make is longer than what came in: it says more and counts as full. Else prove '..UptoSaid'. A law counts once. -/
mutual
def uptoBulk {H : Type} : DataW H → Nat
  | .lit (.string bytes) => bytes.length + 1
  | .lit _ => 1
  | .nil => 1
  | .ptr d => uptoBulk d + 1
  | .slice elems spare => uptoBulkAll elems + uptoBulkAll spare + 1
  | .agg parts => uptoBulkAll parts + 1
  | .iface _ d => uptoBulk d + 1
  | .map entries => uptoBulkEntries entries + 1
  | .held _ => 1
def uptoBulkAll {H : Type} : List (DataW H) → Nat
  | [] => 0
  | d :: r => uptoBulk d + uptoBulkAll r
def uptoBulkEntries {H : Type} : List (Lit × DataW H) → Nat
  | [] => 0
  | x :: r => uptoBulkEntry x + uptoBulkEntries r
def uptoBulkEntry {H : Type} : Lit × DataW H → Nat
  | (.string bytes, d) => bytes.length + uptoBulk d + 1
  | (_, d) => uptoBulk d + 1
 end
def uptoSmall : (H : Type) → List (DataW H) → Bool := fun _ ds => decide (uptoBulkAll ds ≤ 1048576)
def OpenSpec.upto (s : _root_.Go.ChangeSpec) : _root_.Go.OpenSpec := { _root_.Go.OpenSpec.ofChange s with cond := some uptoSmall }

/-- 'laws.FnExactFindConic', WHERE WHAT IT READS IS OF BULK AT MOST 1048576: true; the input reads as it did. -/
def fnExactFindConicUptoRow : OpenClaim := { program := "ytjampkjgapkklaa", sum := "32db636ca6f51e4f69d2495c29490404d9417fb19093343f01f55e9edf7cc6d1", func := "loop.example/g01000/laws.FnExactFindConic", spec := "fnExactFindConic", apart := false, narrowed := true }
def FnExactFindConicUptoSaid : Prop := fnExactFindConicUptoRow.holds Try.pinned (OpenSpec.upto fnExactFindConicSpec)

/-- 'laws.FnExactCountSquareFrees', WHERE WHAT IT READS IS OF BULK AT MOST 1048576: true; the input reads as it did. -/
def fnExactCountSquareFreesUptoRow : OpenClaim := { program := "ytjampkjgapkklaa", sum := "32db636ca6f51e4f69d2495c29490404d9417fb19093343f01f55e9edf7cc6d1", func := "loop.example/g01000/laws.FnExactCountSquareFrees", spec := "fnExactCountSquareFrees", apart := false, narrowed := true }
def FnExactCountSquareFreesUptoSaid : Prop := fnExactCountSquareFreesUptoRow.holds Try.pinned (OpenSpec.upto fnExactCountSquareFreesSpec)

/-- 'laws.FnExactJacobiSymbol', WHERE WHAT IT READS IS OF BULK AT MOST 1048576: true; the input reads as it did. -/
def fnExactJacobiSymbolUptoRow : OpenClaim := { program := "ytjampkjgapkklaa", sum := "32db636ca6f51e4f69d2495c29490404d9417fb19093343f01f55e9edf7cc6d1", func := "loop.example/g01000/laws.FnExactJacobiSymbol", spec := "fnExactJacobiSymbol", apart := false, narrowed := true }
def FnExactJacobiSymbolUptoSaid : Prop := fnExactJacobiSymbolUptoRow.holds Try.pinned (OpenSpec.upto fnExactJacobiSymbolSpec)

/-- 'laws.FnExactSquareClass', WHERE WHAT IT READS IS OF BULK AT MOST 1048576: true; the input reads as it did. -/
def fnExactSquareClassUptoRow : OpenClaim := { program := "ytjampkjgapkklaa", sum := "32db636ca6f51e4f69d2495c29490404d9417fb19093343f01f55e9edf7cc6d1", func := "loop.example/g01000/laws.FnExactSquareClass", spec := "fnExactSquareClass", apart := false, narrowed := true }
def FnExactSquareClassUptoSaid : Prop := fnExactSquareClassUptoRow.holds Try.pinned (OpenSpec.upto fnExactSquareClassSpec)

/-- 'laws.FnExactHilbertSymbol', WHERE WHAT IT READS IS OF BULK AT MOST 1048576: true; the input reads as it did. -/
def fnExactHilbertSymbolUptoRow : OpenClaim := { program := "ytjampkjgapkklaa", sum := "32db636ca6f51e4f69d2495c29490404d9417fb19093343f01f55e9edf7cc6d1", func := "loop.example/g01000/laws.FnExactHilbertSymbol", spec := "fnExactHilbertSymbol", apart := false, narrowed := true }
def FnExactHilbertSymbolUptoSaid : Prop := fnExactHilbertSymbolUptoRow.holds Try.pinned (OpenSpec.upto fnExactHilbertSymbolSpec)

/-- 'laws.FnExactPrimitiveRoot', WHERE WHAT IT READS IS OF BULK AT MOST 1048576: true; the input reads as it did. -/
def fnExactPrimitiveRootUptoRow : OpenClaim := { program := "ytjampkjgapkklaa", sum := "32db636ca6f51e4f69d2495c29490404d9417fb19093343f01f55e9edf7cc6d1", func := "loop.example/g01000/laws.FnExactPrimitiveRoot", spec := "fnExactPrimitiveRoot", apart := false, narrowed := true }
def FnExactPrimitiveRootUptoSaid : Prop := fnExactPrimitiveRootUptoRow.holds Try.pinned (OpenSpec.upto fnExactPrimitiveRootSpec)

/-- 'laws.FnExactBadPrimes', WHERE WHAT IT READS IS OF BULK AT MOST 1048576: true; the input reads as it did. -/
def fnExactBadPrimesUptoRow : OpenClaim := { program := "ytjampkjgapkklaa", sum := "32db636ca6f51e4f69d2495c29490404d9417fb19093343f01f55e9edf7cc6d1", func := "loop.example/g01000/laws.FnExactBadPrimes", spec := "fnExactBadPrimes", apart := false, narrowed := true }
def FnExactBadPrimesUptoSaid : Prop := fnExactBadPrimesUptoRow.holds Try.pinned (OpenSpec.upto fnExactBadPrimesSpec)

/-- 'laws.FnExactSymbolTable', WHERE WHAT IT READS IS OF BULK AT MOST 1048576: true; the input reads as it did. -/
def fnExactSymbolTableUptoRow : OpenClaim := { program := "ytjampkjgapkklaa", sum := "32db636ca6f51e4f69d2495c29490404d9417fb19093343f01f55e9edf7cc6d1", func := "loop.example/g01000/laws.FnExactSymbolTable", spec := "fnExactSymbolTable", apart := false, narrowed := true }
def FnExactSymbolTableUptoSaid : Prop := fnExactSymbolTableUptoRow.holds Try.pinned (OpenSpec.upto fnExactSymbolTableSpec)

/-- 'laws.FnExactHasConic', WHERE WHAT IT READS IS OF BULK AT MOST 1048576: true; the input reads as it did. -/
def fnExactHasConicUptoRow : OpenClaim := { program := "ytjampkjgapkklaa", sum := "32db636ca6f51e4f69d2495c29490404d9417fb19093343f01f55e9edf7cc6d1", func := "loop.example/g01000/laws.FnExactHasConic", spec := "fnExactHasConic", apart := false, narrowed := true }
def FnExactHasConicUptoSaid : Prop := fnExactHasConicUptoRow.holds Try.pinned (OpenSpec.upto fnExactHasConicSpec)

/-- 'laws.FnSymbols', WHERE WHAT IT READS IS OF BULK AT MOST 1048576: true; the input reads as it did. -/
def fnSymbolsUptoRow : OpenClaim := { program := "ytjampkjgapkklaa", sum := "32db636ca6f51e4f69d2495c29490404d9417fb19093343f01f55e9edf7cc6d1", func := "loop.example/g01000/laws.FnSymbols", spec := "fnSymbols", apart := false, narrowed := true }
def FnSymbolsUptoSaid : Prop := fnSymbolsUptoRow.holds Try.pinned (OpenSpec.upto fnSymbolsSpec)

/-- 'laws.FnExactPadicOf', WHERE WHAT IT READS IS OF BULK AT MOST 1048576: true; the input reads as it did. -/
def fnExactPadicOfUptoRow : OpenClaim := { program := "ytjampkjgapkklaa", sum := "32db636ca6f51e4f69d2495c29490404d9417fb19093343f01f55e9edf7cc6d1", func := "loop.example/g01000/laws.FnExactPadicOf", spec := "fnExactPadicOf", apart := false, narrowed := true }
def FnExactPadicOfUptoSaid : Prop := fnExactPadicOfUptoRow.holds Try.pinned (OpenSpec.upto fnExactPadicOfSpec)

/-- 'laws.FnExactDifferentOf', WHERE WHAT IT READS IS OF BULK AT MOST 1048576: true; the input reads as it did. -/
def fnExactDifferentOfUptoRow : OpenClaim := { program := "ytjampkjgapkklaa", sum := "32db636ca6f51e4f69d2495c29490404d9417fb19093343f01f55e9edf7cc6d1", func := "loop.example/g01000/laws.FnExactDifferentOf", spec := "fnExactDifferentOf", unfollowed := true, recurses := true, apart := false, narrowed := true }
def FnExactDifferentOfUptoSaid : Prop := fnExactDifferentOfUptoRow.holds Try.pinned (OpenSpec.upto fnExactDifferentOfSpec)

end Rows
end Go.Proofs.Ytjampkjgapkklaa
