/-
  DERIVED. GIVEN WITH THE SEED: THE CARDS: each row of YtdifpleoipjjfaaGreatDoorRows.lean that lists a variable, with what it lists TIED to the program's text (the seventh form; the later family's looks); each row that meets fmt, with fmt's text TOLD by the authors' own Lean function (tested against real Go, not proved from fmt's source: count such statements apart). THE CARD IS WHAT COUNTS. Prove the row's statement (the work); the ties are given (YtdifpleoipjjfaaGreatDoorTie.lean); close each card by the builder's one call (the guide's Derived/Test/ToyasCard.lean, 'card_holds'). Laid BY PROGRAM, IN A SANDBOX (cutbox-door.mjs). By AI agents, Wed Nov 11 2026. No macro, syntax, notation, axiom, sorry.
-/
import Derived.Test.YtdifpleoipjjfaaGreatDoorRows
import GoSem.ClaimSeven
namespace Go.Proofs.YtdifpleoipjjfaaGreatDoor
namespace Rows

/-- THE TIED CARD OF 'customhouselaw49.DependNothing'. -/
def dependNothingCard : Claim7 := { stood := { row := dependNothingRow, standIns := [], harness := (true, "69e4fb66398286a592784f239ec27cb53363b510a9eaa67f9c80f7b1d8633336"), looks := true }, kinds := [], alts := [], laidByText := true, laidKinds := [.pinned, .data, .pinned, .sentinel, .sentinel, .data, .data, .data], laidTests := true, laidLooks := .later }
def DependNothingCardSaid : Prop := Claim7.holds Tryz.pinned (.plain (OpenSpec.ofChange dependNothingSpec)) dependNothingCard

/-- THE SECOND FORM's CARD OF 'customhouselaw49.DependNothing'. -/
def dependNothingUptoCard : Claim7 := { stood := { row := dependNothingUptoRow, standIns := [], harness := (true, "69e4fb66398286a592784f239ec27cb53363b510a9eaa67f9c80f7b1d8633336"), looks := true }, kinds := [], alts := [], laidByText := true, laidKinds := [.pinned, .data, .pinned, .sentinel, .sentinel, .data, .data, .data], laidTests := true, laidLooks := .later }
def DependNothingUptoCardSaid : Prop := Claim7.holds Tryz.pinned (.plain (OpenSpec.upto dependNothingSpec)) dependNothingUptoCard
end Rows
end Go.Proofs.YtdifpleoipjjfaaGreatDoor
