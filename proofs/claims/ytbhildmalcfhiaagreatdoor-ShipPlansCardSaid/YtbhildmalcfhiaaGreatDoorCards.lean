/-
  DERIVED. GIVEN WITH THE SEED: THE CARDS: each row of YtbhildmalcfhiaaGreatDoorRows.lean that lists a variable, with what it lists TIED to the program's text (the seventh form; the later family's looks); each row that meets fmt, with fmt's text TOLD by the authors' own Lean function (tested against real Go, not proved from fmt's source: count such statements apart). THE CARD IS WHAT COUNTS. Prove the row's statement (the work); the ties are given (YtbhildmalcfhiaaGreatDoorTie.lean); close each card by the builder's one call (the guide's Derived/Test/ToyasCard.lean, 'card_holds'). Laid BY PROGRAM, IN A SANDBOX (cutbox-door.mjs). By AI agents, Wed Nov 11 2026. No macro, syntax, notation, axiom, sorry.
-/
import Derived.Test.YtbhildmalcfhiaaGreatDoorRows
import GoSem.ClaimSeven
namespace Go.Proofs.YtbhildmalcfhiaaGreatDoor
namespace Rows

/-- THE TIED CARD OF 'mastlaw1.ShipLinks'. -/
def shipLinksCard : Claim7 := { stood := { row := shipLinksRow, standIns := [], harness := (true, "4c9f9ba63a299110de63fc39185e957ffa0863262e01077c6301957ba8ee641a"), looks := true }, kinds := [], alts := [], laidByText := true, laidKinds := [.data, .pinned], laidTests := true, laidLooks := .later }
def ShipLinksCardSaid : Prop := Claim7.holds Tryz.pinned (.plain (OpenSpec.ofChange shipLinksSpec)) shipLinksCard

/-- THE TIED CARD OF 'mastlaw1.ShipFaults'. -/
def shipFaultsCard : Claim7 := { stood := { row := shipFaultsRow, standIns := [], harness := (true, "4c9f9ba63a299110de63fc39185e957ffa0863262e01077c6301957ba8ee641a"), looks := true }, kinds := [], alts := [], laidByText := true, laidKinds := [.data, .data, .data, .data, .sentinel, .sentinel, .pinned], laidTests := true, laidLooks := .later }
def ShipFaultsCardSaid : Prop := Claim7.holds Tryz.pinned (.plain (OpenSpec.ofChange shipFaultsSpec)) shipFaultsCard

/-- THE TIED CARD OF 'mastlaw1.ShipPlans'. -/
def shipPlansCard : Claim7 := { stood := { row := shipPlansRow, standIns := [], harness := (true, "4c9f9ba63a299110de63fc39185e957ffa0863262e01077c6301957ba8ee641a"), looks := true }, kinds := [], alts := [], laidByText := true, laidKinds := [.data, .pinned], laidTests := true, laidLooks := .later }
def ShipPlansCardSaid : Prop := Claim7.holds Tryz.pinned (.plain (OpenSpec.ofChange shipPlansSpec)) shipPlansCard

/-- THE SECOND FORM's CARD OF 'mastlaw1.ShipLinks'. -/
def shipLinksUptoCard : Claim7 := { stood := { row := shipLinksUptoRow, standIns := [], harness := (true, "4c9f9ba63a299110de63fc39185e957ffa0863262e01077c6301957ba8ee641a"), looks := true }, kinds := [], alts := [], laidByText := true, laidKinds := [.data, .pinned], laidTests := true, laidLooks := .later }
def ShipLinksUptoCardSaid : Prop := Claim7.holds Tryz.pinned (.plain (OpenSpec.upto shipLinksSpec)) shipLinksUptoCard

/-- THE SECOND FORM's CARD OF 'mastlaw1.ShipFaults'. -/
def shipFaultsUptoCard : Claim7 := { stood := { row := shipFaultsUptoRow, standIns := [], harness := (true, "4c9f9ba63a299110de63fc39185e957ffa0863262e01077c6301957ba8ee641a"), looks := true }, kinds := [], alts := [], laidByText := true, laidKinds := [.data, .data, .data, .data, .sentinel, .sentinel, .pinned], laidTests := true, laidLooks := .later }
def ShipFaultsUptoCardSaid : Prop := Claim7.holds Tryz.pinned (.plain (OpenSpec.upto shipFaultsSpec)) shipFaultsUptoCard

/-- THE SECOND FORM's CARD OF 'mastlaw1.ShipPlans'. -/
def shipPlansUptoCard : Claim7 := { stood := { row := shipPlansUptoRow, standIns := [], harness := (true, "4c9f9ba63a299110de63fc39185e957ffa0863262e01077c6301957ba8ee641a"), looks := true }, kinds := [], alts := [], laidByText := true, laidKinds := [.data, .pinned], laidTests := true, laidLooks := .later }
def ShipPlansUptoCardSaid : Prop := Claim7.holds Tryz.pinned (.plain (OpenSpec.upto shipPlansSpec)) shipPlansUptoCard
end Rows
end Go.Proofs.YtbhildmalcfhiaaGreatDoor
