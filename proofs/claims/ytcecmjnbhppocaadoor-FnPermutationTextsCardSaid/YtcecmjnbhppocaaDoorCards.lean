/-
  DERIVED. GIVEN WITH THE SEED: THE CARDS: each row of YtcecmjnbhppocaaDoorRows.lean that lists a variable, with what it lists TIED to the program's text (the seventh form; the later family's looks); each row that meets fmt, with fmt's text TOLD by the authors' own Lean function (tested against real Go, not proved from fmt's source: count such statements apart). THE CARD IS WHAT COUNTS. Prove the row's statement (the work); the ties are given (YtcecmjnbhppocaaDoorTie.lean); close each card by the builder's one call (the guide's Derived/Test/ToyasCard.lean, 'card_holds'). Laid BY PROGRAM, IN A SANDBOX (cutbox-door.mjs). By AI agents, Wed Nov 11 2026. No macro, syntax, notation, axiom, sorry.
-/
import Derived.Test.YtcecmjnbhppocaaDoorRows
import GoSem.ClaimSeven
namespace Go.Proofs.YtcecmjnbhppocaaDoor
namespace Rows

/-- THE TIED CARD OF 'laws.FnExactPermutationText'. -/
def fnExactPermutationTextCard : Claim7 := { stood := { row := fnExactPermutationTextRow, standIns := [], harness := (true, "67af9f0907b312db9fc79526ed78e23dc73225563d1eb3b143a6db305604f64c"), looks := false }, kinds := [], alts := [], laidByText := true, laidKinds := [.data, .data, .data, .data, .pinned], laidTests := true, laidLooks := .later }
def FnExactPermutationTextCardSaid : Prop := Claim7.holds Tryd.pinned (.plain (OpenSpec.ofChange fnExactPermutationTextSpec)) fnExactPermutationTextCard

/-- THE TIED CARD OF 'laws.FnExactReadPermutation'. -/
def fnExactReadPermutationCard : Claim7 := { stood := { row := fnExactReadPermutationRow, standIns := [], harness := (true, "67af9f0907b312db9fc79526ed78e23dc73225563d1eb3b143a6db305604f64c"), looks := false }, kinds := [], alts := [], laidByText := true, laidKinds := [.data, .data, .data, .data, .pinned], laidTests := true, laidLooks := .later }
def FnExactReadPermutationCardSaid : Prop := Claim7.holds Tryd.pinned (.plain (OpenSpec.ofChange fnExactReadPermutationSpec)) fnExactReadPermutationCard

/-- THE TIED CARD OF 'laws.FnPermutationTexts'. -/
def fnPermutationTextsCard : Claim7 := { stood := { row := fnPermutationTextsRow, standIns := [], harness := (true, "67af9f0907b312db9fc79526ed78e23dc73225563d1eb3b143a6db305604f64c"), looks := false }, kinds := [], alts := [], laidByText := true, laidKinds := [.data, .data, .data, .data, .pinned], laidTests := true, laidLooks := .later }
def FnPermutationTextsCardSaid : Prop := Claim7.holds Tryd.pinned (.plain (OpenSpec.ofChange fnPermutationTextsSpec)) fnPermutationTextsCard

/-- THE SECOND FORM's CARD OF 'laws.FnExactPermutationText'. -/
def fnExactPermutationTextUptoCard : Claim7 := { stood := { row := fnExactPermutationTextUptoRow, standIns := [], harness := (true, "67af9f0907b312db9fc79526ed78e23dc73225563d1eb3b143a6db305604f64c"), looks := false }, kinds := [], alts := [], laidByText := true, laidKinds := [.data, .data, .data, .data, .pinned], laidTests := true, laidLooks := .later }
def FnExactPermutationTextUptoCardSaid : Prop := Claim7.holds Tryd.pinned (.plain (OpenSpec.upto fnExactPermutationTextSpec)) fnExactPermutationTextUptoCard

/-- THE SECOND FORM's CARD OF 'laws.FnExactReadPermutation'. -/
def fnExactReadPermutationUptoCard : Claim7 := { stood := { row := fnExactReadPermutationUptoRow, standIns := [], harness := (true, "67af9f0907b312db9fc79526ed78e23dc73225563d1eb3b143a6db305604f64c"), looks := false }, kinds := [], alts := [], laidByText := true, laidKinds := [.data, .data, .data, .data, .pinned], laidTests := true, laidLooks := .later }
def FnExactReadPermutationUptoCardSaid : Prop := Claim7.holds Tryd.pinned (.plain (OpenSpec.upto fnExactReadPermutationSpec)) fnExactReadPermutationUptoCard

/-- THE SECOND FORM's CARD OF 'laws.FnPermutationTexts'. -/
def fnPermutationTextsUptoCard : Claim7 := { stood := { row := fnPermutationTextsUptoRow, standIns := [], harness := (true, "67af9f0907b312db9fc79526ed78e23dc73225563d1eb3b143a6db305604f64c"), looks := false }, kinds := [], alts := [], laidByText := true, laidKinds := [.data, .data, .data, .data, .pinned], laidTests := true, laidLooks := .later }
def FnPermutationTextsUptoCardSaid : Prop := Claim7.holds Tryd.pinned (.plain (OpenSpec.upto fnPermutationTextsSpec)) fnPermutationTextsUptoCard
end Rows
end Go.Proofs.YtcecmjnbhppocaaDoor
