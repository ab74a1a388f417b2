/-
  DERIVED. GIVEN WITH THE SEED: THE CARDS: each row of YtakbadleipbngaaDoorRows.lean that lists a variable, with what it lists TIED to the program's text (the seventh form; the later family's looks); each row that meets fmt, with fmt's text TOLD by the authors' own Lean function (tested against real Go, not proved from fmt's source: count such statements apart). THE CARD IS WHAT COUNTS. Prove the row's statement (the work); the ties are given (YtakbadleipbngaaDoorTie.lean); close each card by the builder's one call (the guide's Derived/Test/ToyasCard.lean, 'card_holds'). Laid BY PROGRAM, IN A SANDBOX (cutbox-door.mjs). By AI agents, Wed Nov 11 2026. No macro, syntax, notation, axiom, sorry.
-/
import Derived.Test.YtakbadleipbngaaDoorRows
import GoSem.ClaimSeven
namespace Go.Proofs.YtakbadleipbngaaDoor
namespace Rows

/-- THE TIED CARD OF 'skewbacklaw42.LinkFramesAreCoded'. -/
def linkFramesAreCodedCard : Claim7 := { stood := { row := linkFramesAreCodedRow, standIns := [], harness := (true, "4c0228f7c00179be2869bc605309889eba6e27b76a32fc39b803e0279fce757d"), looks := false }, kinds := [], alts := [], laidByText := true, laidKinds := [.data, .data], laidTests := true, laidLooks := .later }
def LinkFramesAreCodedCardSaid : Prop := Claim7.holds Tryd.pinned (.plain (OpenSpec.ofChange linkFramesAreCodedSpec)) linkFramesAreCodedCard

/-- THE SECOND FORM's CARD OF 'skewbacklaw42.LinkFramesAreCoded'. -/
def linkFramesAreCodedUptoCard : Claim7 := { stood := { row := linkFramesAreCodedUptoRow, standIns := [], harness := (true, "4c0228f7c00179be2869bc605309889eba6e27b76a32fc39b803e0279fce757d"), looks := false }, kinds := [], alts := [], laidByText := true, laidKinds := [.data, .data], laidTests := true, laidLooks := .later }
def LinkFramesAreCodedUptoCardSaid : Prop := Claim7.holds Tryd.pinned (.plain (OpenSpec.upto linkFramesAreCodedSpec)) linkFramesAreCodedUptoCard
end Rows
end Go.Proofs.YtakbadleipbngaaDoor
