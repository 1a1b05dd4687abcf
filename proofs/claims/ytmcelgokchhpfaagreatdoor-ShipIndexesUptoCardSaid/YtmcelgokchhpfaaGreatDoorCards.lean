/-
  DERIVED. GIVEN WITH THE SEED: THE CARDS: each row of YtmcelgokchhpfaaGreatDoorRows.lean that lists a variable, with what it lists TIED to the program's text (the seventh form; the later family's looks); each row that meets fmt, with fmt's text TOLD by the authors' own Lean function (tested against real Go, not proved from fmt's source: count such statements apart). THE CARD IS WHAT COUNTS. Prove the row's statement (the work); the ties are given (YtmcelgokchhpfaaGreatDoorTie.lean); close each card by the builder's one call (the guide's Derived/Test/ToyasCard.lean, 'card_holds'). Laid BY PROGRAM, IN A SANDBOX (cutbox-door.mjs). By AI agents, Wed Nov 11 2026. No macro, syntax, notation, axiom, sorry.
-/
import Derived.Test.YtmcelgokchhpfaaGreatDoorRows
import GoSem.ClaimSeven
namespace Go.Proofs.YtmcelgokchhpfaaGreatDoor
namespace Rows

/-- THE TIED CARD OF 'mastlaw1.ShipIndexes'. -/
def shipIndexesCard : Claim7 := { stood := { row := shipIndexesRow, standIns := [], harness := (true, "b6f099cd750cbccdc60efc3fe634e18fcb4b1fc494a6af8dbc58f262f9d9c233"), looks := false }, kinds := [], alts := [], laidByText := true, laidKinds := [.data, .data, .data, .data, .pinned], laidTests := true, laidLooks := .later }
def ShipIndexesCardSaid : Prop := Claim7.holds Tryz.pinned (.plain (OpenSpec.ofChange shipIndexesSpec)) shipIndexesCard

/-- THE SECOND FORM's CARD OF 'mastlaw1.ShipIndexes'. -/
def shipIndexesUptoCard : Claim7 := { stood := { row := shipIndexesUptoRow, standIns := [], harness := (true, "b6f099cd750cbccdc60efc3fe634e18fcb4b1fc494a6af8dbc58f262f9d9c233"), looks := false }, kinds := [], alts := [], laidByText := true, laidKinds := [.data, .data, .data, .data, .pinned], laidTests := true, laidLooks := .later }
def ShipIndexesUptoCardSaid : Prop := Claim7.holds Tryz.pinned (.plain (OpenSpec.upto shipIndexesSpec)) shipIndexesUptoCard
end Rows
end Go.Proofs.YtmcelgokchhpfaaGreatDoor
