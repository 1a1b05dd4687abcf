/-
  DERIVED. GIVEN WITH THE SEED: THE CARDS: each row of YtfeecoeeiangnaaDoorRows.lean that lists a variable, with what it lists TIED to the program's text (the seventh form; the later family's looks); each row that meets fmt, with fmt's text TOLD by the authors' own Lean function (tested against real Go, not proved from fmt's source: count such statements apart). THE CARD IS WHAT COUNTS. Prove the row's statement (the work); the ties are given (YtfeecoeeiangnaaDoorTie.lean); close each card by the builder's one call (the guide's Derived/Test/ToyasCard.lean, 'card_holds'). Laid BY PROGRAM, IN A SANDBOX (cutbox-door.mjs). By AI agents, Wed Nov 11 2026. No macro, syntax, notation, axiom, sorry.
-/
import Derived.Test.YtfeecoeeiangnaaDoorRows
import GoSem.ClaimSeven
namespace Go.Proofs.YtfeecoeeiangnaaDoor
namespace Rows

/-- THE TIED CARD OF 'mastlaw1.ShipReads'. -/
def shipReadsCard : Claim7 := { stood := { row := shipReadsRow, standIns := [], harness := (true, "9d704907436f366e9ba1869ee4ac3ae367cf0c93593c2fe64b79ac80f6c9b0ca"), looks := false }, kinds := [], alts := [], laidByText := true, laidKinds := [.data, .data, .data, .data, .pinned], laidTests := true, laidLooks := .later }
def ShipReadsCardSaid : Prop := Claim7.holds Tryd.pinned (.plain (OpenSpec.ofChange shipReadsSpec)) shipReadsCard

/-- THE TIED CARD OF 'mastlaw1.ShipEvents'. -/
def shipEventsCard : Claim7 := { stood := { row := shipEventsRow, standIns := [], harness := (true, "9d704907436f366e9ba1869ee4ac3ae367cf0c93593c2fe64b79ac80f6c9b0ca"), looks := false }, kinds := [], alts := [], laidByText := true, laidKinds := [.data, .pinned], laidTests := true, laidLooks := .later }
def ShipEventsCardSaid : Prop := Claim7.holds Tryd.pinned (.plain (OpenSpec.ofChange shipEventsSpec)) shipEventsCard

/-- THE TIED CARD OF 'mastlaw1.ShipApplies'. -/
def shipAppliesCard : Claim7 := { stood := { row := shipAppliesRow, standIns := [], harness := (true, "9d704907436f366e9ba1869ee4ac3ae367cf0c93593c2fe64b79ac80f6c9b0ca"), looks := false }, kinds := [], alts := [], laidByText := true, laidKinds := [.data, .pinned], laidTests := true, laidLooks := .later }
def ShipAppliesCardSaid : Prop := Claim7.holds Tryd.pinned (.plain (OpenSpec.ofChange shipAppliesSpec)) shipAppliesCard

/-- THE SECOND FORM's CARD OF 'mastlaw1.ShipReads'. -/
def shipReadsUptoCard : Claim7 := { stood := { row := shipReadsUptoRow, standIns := [], harness := (true, "9d704907436f366e9ba1869ee4ac3ae367cf0c93593c2fe64b79ac80f6c9b0ca"), looks := false }, kinds := [], alts := [], laidByText := true, laidKinds := [.data, .data, .data, .data, .pinned], laidTests := true, laidLooks := .later }
def ShipReadsUptoCardSaid : Prop := Claim7.holds Tryd.pinned (.plain (OpenSpec.upto shipReadsSpec)) shipReadsUptoCard

/-- THE SECOND FORM's CARD OF 'mastlaw1.ShipEvents'. -/
def shipEventsUptoCard : Claim7 := { stood := { row := shipEventsUptoRow, standIns := [], harness := (true, "9d704907436f366e9ba1869ee4ac3ae367cf0c93593c2fe64b79ac80f6c9b0ca"), looks := false }, kinds := [], alts := [], laidByText := true, laidKinds := [.data, .pinned], laidTests := true, laidLooks := .later }
def ShipEventsUptoCardSaid : Prop := Claim7.holds Tryd.pinned (.plain (OpenSpec.upto shipEventsSpec)) shipEventsUptoCard

/-- THE SECOND FORM's CARD OF 'mastlaw1.ShipApplies'. -/
def shipAppliesUptoCard : Claim7 := { stood := { row := shipAppliesUptoRow, standIns := [], harness := (true, "9d704907436f366e9ba1869ee4ac3ae367cf0c93593c2fe64b79ac80f6c9b0ca"), looks := false }, kinds := [], alts := [], laidByText := true, laidKinds := [.data, .pinned], laidTests := true, laidLooks := .later }
def ShipAppliesUptoCardSaid : Prop := Claim7.holds Tryd.pinned (.plain (OpenSpec.upto shipAppliesSpec)) shipAppliesUptoCard
end Rows
end Go.Proofs.YtfeecoeeiangnaaDoor
