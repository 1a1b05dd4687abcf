/-
  DERIVED. GIVEN WITH THE SEED: THE CARDS: each row of YtogjhcmaapplgaaDoorRows.lean that lists a variable, with what it lists TIED to the program's text (the seventh form; the later family's looks); each row that meets fmt, with fmt's text TOLD by the authors' own Lean function (tested against real Go, not proved from fmt's source: count such statements apart). THE CARD IS WHAT COUNTS. Prove the row's statement (the work); the ties are given (YtogjhcmaapplgaaDoorTie.lean); close each card by the builder's one call (the guide's Derived/Test/ToyasCard.lean, 'card_holds'). Laid BY PROGRAM, IN A SANDBOX (cutbox-door.mjs). By AI agents, Wed Nov 11 2026. No macro, syntax, notation, axiom, sorry.
-/
import Derived.Test.YtogjhcmaapplgaaDoorRows
import GoSem.ClaimSeven
namespace Go.Proofs.YtogjhcmaapplgaaDoor
namespace Rows

/-- THE TIED CARD OF 'mastlaw1.ShipApplies'. -/
def shipAppliesCard : Claim7 := { stood := { row := shipAppliesRow, standIns := [], harness := (true, "220700008481f93705ae50ea50e9411e85c96199950931f936390087f586b0e2"), looks := false }, kinds := [], alts := [], laidByText := true, laidKinds := [.data, .pinned], laidTests := true, laidLooks := .later }
def ShipAppliesCardSaid : Prop := Claim7.holds Tryd.pinned (.plain (OpenSpec.ofChange shipAppliesSpec)) shipAppliesCard

/-- THE SECOND FORM's CARD OF 'mastlaw1.ShipApplies'. -/
def shipAppliesUptoCard : Claim7 := { stood := { row := shipAppliesUptoRow, standIns := [], harness := (true, "220700008481f93705ae50ea50e9411e85c96199950931f936390087f586b0e2"), looks := false }, kinds := [], alts := [], laidByText := true, laidKinds := [.data, .pinned], laidTests := true, laidLooks := .later }
def ShipAppliesUptoCardSaid : Prop := Claim7.holds Tryd.pinned (.plain (OpenSpec.upto shipAppliesSpec)) shipAppliesUptoCard
end Rows
end Go.Proofs.YtogjhcmaapplgaaDoor
