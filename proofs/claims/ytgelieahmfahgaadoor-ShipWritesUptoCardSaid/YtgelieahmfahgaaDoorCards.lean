/-
  DERIVED. GIVEN WITH THE SEED: THE CARDS: each row of YtgelieahmfahgaaDoorRows.lean that lists a variable, with what it lists TIED to the program's text (the seventh form; the later family's looks); each row that meets fmt, with fmt's text TOLD by the authors' own Lean function (tested against real Go, not proved from fmt's source: count such statements apart). THE CARD IS WHAT COUNTS. Prove the row's statement (the work); the ties are given (YtgelieahmfahgaaDoorTie.lean); close each card by the builder's one call (the guide's Derived/Test/ToyasCard.lean, 'card_holds'). Laid BY PROGRAM, IN A SANDBOX (cutbox-door.mjs). By AI agents, Wed Nov 11 2026. No macro, syntax, notation, axiom, sorry.
-/
import Derived.Test.YtgelieahmfahgaaDoorRows
import GoSem.ClaimSeven
namespace Go.Proofs.YtgelieahmfahgaaDoor
namespace Rows

/-- THE TIED CARD OF 'mastlaw1.ShipWrites'. -/
def shipWritesCard : Claim7 := { stood := { row := shipWritesRow, standIns := [], harness := (true, "cd8a75773d88baf09d019411da5508c190f79bf0fb7a72207e63d978b585b2d5"), looks := true }, kinds := [], alts := [], laidByText := true, laidKinds := [.data, .data, .data, .data, .pinned], laidTests := true, laidLooks := .later }
def ShipWritesCardSaid : Prop := Claim7.holds Tryd.pinned (.plain (OpenSpec.ofChange shipWritesSpec)) shipWritesCard

/-- THE TIED CARD OF 'mastlaw1.ShipReads'. -/
def shipReadsCard : Claim7 := { stood := { row := shipReadsRow, standIns := [], harness := (true, "cd8a75773d88baf09d019411da5508c190f79bf0fb7a72207e63d978b585b2d5"), looks := true }, kinds := [], alts := [], laidByText := true, laidKinds := [.data, .data, .data, .data, .pinned], laidTests := true, laidLooks := .later }
def ShipReadsCardSaid : Prop := Claim7.holds Tryd.pinned (.plain (OpenSpec.ofChange shipReadsSpec)) shipReadsCard

/-- THE TIED CARD OF 'mastlaw1.PageSplits'. -/
def pageSplitsCard : Claim7 := { stood := { row := pageSplitsRow, standIns := [], harness := (true, "cd8a75773d88baf09d019411da5508c190f79bf0fb7a72207e63d978b585b2d5"), looks := true }, kinds := [], alts := [], laidByText := true, laidKinds := [.data, .pinned], laidTests := true, laidLooks := .later }
def PageSplitsCardSaid : Prop := Claim7.holds Tryd.pinned (.plain (OpenSpec.ofChange pageSplitsSpec)) pageSplitsCard

/-- THE TIED CARD OF 'mastlaw1.ShipMaps'. -/
def shipMapsCard : Claim7 := { stood := { row := shipMapsRow, standIns := [], harness := (true, "cd8a75773d88baf09d019411da5508c190f79bf0fb7a72207e63d978b585b2d5"), looks := true }, kinds := [], alts := [], laidByText := true, laidKinds := [.data, .pinned], laidTests := true, laidLooks := .later }
def ShipMapsCardSaid : Prop := Claim7.holds Tryd.pinned (.plain (OpenSpec.ofChange shipMapsSpec)) shipMapsCard

/-- THE SECOND FORM's CARD OF 'mastlaw1.ShipWrites'. -/
def shipWritesUptoCard : Claim7 := { stood := { row := shipWritesUptoRow, standIns := [], harness := (true, "cd8a75773d88baf09d019411da5508c190f79bf0fb7a72207e63d978b585b2d5"), looks := true }, kinds := [], alts := [], laidByText := true, laidKinds := [.data, .data, .data, .data, .pinned], laidTests := true, laidLooks := .later }
def ShipWritesUptoCardSaid : Prop := Claim7.holds Tryd.pinned (.plain (OpenSpec.upto shipWritesSpec)) shipWritesUptoCard

/-- THE SECOND FORM's CARD OF 'mastlaw1.ShipReads'. -/
def shipReadsUptoCard : Claim7 := { stood := { row := shipReadsUptoRow, standIns := [], harness := (true, "cd8a75773d88baf09d019411da5508c190f79bf0fb7a72207e63d978b585b2d5"), looks := true }, kinds := [], alts := [], laidByText := true, laidKinds := [.data, .data, .data, .data, .pinned], laidTests := true, laidLooks := .later }
def ShipReadsUptoCardSaid : Prop := Claim7.holds Tryd.pinned (.plain (OpenSpec.upto shipReadsSpec)) shipReadsUptoCard

/-- THE SECOND FORM's CARD OF 'mastlaw1.PageSplits'. -/
def pageSplitsUptoCard : Claim7 := { stood := { row := pageSplitsUptoRow, standIns := [], harness := (true, "cd8a75773d88baf09d019411da5508c190f79bf0fb7a72207e63d978b585b2d5"), looks := true }, kinds := [], alts := [], laidByText := true, laidKinds := [.data, .pinned], laidTests := true, laidLooks := .later }
def PageSplitsUptoCardSaid : Prop := Claim7.holds Tryd.pinned (.plain (OpenSpec.upto pageSplitsSpec)) pageSplitsUptoCard

/-- THE SECOND FORM's CARD OF 'mastlaw1.ShipMaps'. -/
def shipMapsUptoCard : Claim7 := { stood := { row := shipMapsUptoRow, standIns := [], harness := (true, "cd8a75773d88baf09d019411da5508c190f79bf0fb7a72207e63d978b585b2d5"), looks := true }, kinds := [], alts := [], laidByText := true, laidKinds := [.data, .pinned], laidTests := true, laidLooks := .later }
def ShipMapsUptoCardSaid : Prop := Claim7.holds Tryd.pinned (.plain (OpenSpec.upto shipMapsSpec)) shipMapsUptoCard
end Rows
end Go.Proofs.YtgelieahmfahgaaDoor
