/-
  DERIVED. GIVEN WITH THE SEED: THE CARDS: each row of YtenhhknmpafpdaaDoorRows.lean that lists a variable, with what it lists TIED to the program's text (the seventh form; the later family's looks); each row that meets fmt, with fmt's text TOLD by the authors' own Lean function (tested against real Go, not proved from fmt's source: count such statements apart). THE CARD IS WHAT COUNTS. Prove the row's statement (the work); the ties are given (YtenhhknmpafpdaaDoorTie.lean); close each card by the builder's one call (the guide's Derived/Test/ToyasCard.lean, 'card_holds'). Laid BY PROGRAM, IN A SANDBOX (cutbox-door.mjs). By AI agents, Wed Nov 11 2026. No macro, syntax, notation, axiom, sorry.
-/
import Derived.Test.YtenhhknmpafpdaaDoorRows
import GoSem.ClaimSeven
namespace Go.Proofs.YtenhhknmpafpdaaDoor
namespace Rows

/-- THE TIED CARD OF 'mastlaw1.ShipMaps'. -/
def shipMapsCard : Claim7 := { stood := { row := shipMapsRow, standIns := [], harness := (true, "2622b14461d32cf88360651446f38bdd9b70d1dd080891bc1ae02bea0dba5c58"), looks := true }, kinds := [], alts := [], laidByText := true, laidKinds := [.data, .pinned], laidTests := true, laidLooks := .later }
def ShipMapsCardSaid : Prop := Claim7.holds Tryd.pinned (.plain (OpenSpec.ofChange shipMapsSpec)) shipMapsCard

/-- THE TIED CARD OF 'mastlaw1.ShipReads'. -/
def shipReadsCard : Claim7 := { stood := { row := shipReadsRow, standIns := [], harness := (true, "2622b14461d32cf88360651446f38bdd9b70d1dd080891bc1ae02bea0dba5c58"), looks := true }, kinds := [], alts := [], laidByText := true, laidKinds := [.data, .data, .data, .data, .pinned], laidTests := true, laidLooks := .later }
def ShipReadsCardSaid : Prop := Claim7.holds Tryd.pinned (.plain (OpenSpec.ofChange shipReadsSpec)) shipReadsCard

/-- THE TIED CARD OF 'mastlaw1.MarkChecks'. -/
def markChecksCard : Claim7 := { stood := { row := markChecksRow, standIns := [], harness := (true, "2622b14461d32cf88360651446f38bdd9b70d1dd080891bc1ae02bea0dba5c58"), looks := true }, kinds := [], alts := [], laidByText := true, laidKinds := [.data, .pinned], laidTests := true, laidLooks := .later }
def MarkChecksCardSaid : Prop := Claim7.holds Tryd.pinned (.plain (OpenSpec.ofChange markChecksSpec)) markChecksCard

/-- THE TIED CARD OF 'mastlaw1.PageSplits'. -/
def pageSplitsCard : Claim7 := { stood := { row := pageSplitsRow, standIns := [], harness := (true, "2622b14461d32cf88360651446f38bdd9b70d1dd080891bc1ae02bea0dba5c58"), looks := true }, kinds := [], alts := [], laidByText := true, laidKinds := [.data, .pinned], laidTests := true, laidLooks := .later }
def PageSplitsCardSaid : Prop := Claim7.holds Tryd.pinned (.plain (OpenSpec.ofChange pageSplitsSpec)) pageSplitsCard

/-- THE TIED CARD OF 'mastlaw1.MarkSections'. -/
def markSectionsCard : Claim7 := { stood := { row := markSectionsRow, standIns := [], harness := (true, "2622b14461d32cf88360651446f38bdd9b70d1dd080891bc1ae02bea0dba5c58"), looks := true }, kinds := [], alts := [], laidByText := true, laidKinds := [.data, .data, .data, .data, .pinned], laidTests := true, laidLooks := .later }
def MarkSectionsCardSaid : Prop := Claim7.holds Tryd.pinned (.plain (OpenSpec.ofChange markSectionsSpec)) markSectionsCard

/-- THE TIED CARD OF 'mastlaw1.MarkIds'. -/
def markIdsCard : Claim7 := { stood := { row := markIdsRow, standIns := [], harness := (true, "2622b14461d32cf88360651446f38bdd9b70d1dd080891bc1ae02bea0dba5c58"), looks := true }, kinds := [], alts := [], laidByText := true, laidKinds := [.data, .data, .data, .data, .pinned], laidTests := true, laidLooks := .later }
def MarkIdsCardSaid : Prop := Claim7.holds Tryd.pinned (.plain (OpenSpec.ofChange markIdsSpec)) markIdsCard

/-- THE TIED CARD OF 'mastlaw1.ShipMoved'. -/
def shipMovedCard : Claim7 := { stood := { row := shipMovedRow, standIns := [], harness := (true, "2622b14461d32cf88360651446f38bdd9b70d1dd080891bc1ae02bea0dba5c58"), looks := true }, kinds := [], alts := [], laidByText := true, laidKinds := [.data, .pinned], laidTests := true, laidLooks := .later }
def ShipMovedCardSaid : Prop := Claim7.holds Tryd.pinned (.plain (OpenSpec.ofChange shipMovedSpec)) shipMovedCard

/-- THE TIED CARD OF 'mastlaw1.ShipApplies'. -/
def shipAppliesCard : Claim7 := { stood := { row := shipAppliesRow, standIns := [], harness := (true, "2622b14461d32cf88360651446f38bdd9b70d1dd080891bc1ae02bea0dba5c58"), looks := true }, kinds := [], alts := [], laidByText := true, laidKinds := [.data, .pinned], laidTests := true, laidLooks := .later }
def ShipAppliesCardSaid : Prop := Claim7.holds Tryd.pinned (.plain (OpenSpec.ofChange shipAppliesSpec)) shipAppliesCard

/-- THE SECOND FORM's CARD OF 'mastlaw1.ShipMaps'. -/
def shipMapsUptoCard : Claim7 := { stood := { row := shipMapsUptoRow, standIns := [], harness := (true, "2622b14461d32cf88360651446f38bdd9b70d1dd080891bc1ae02bea0dba5c58"), looks := true }, kinds := [], alts := [], laidByText := true, laidKinds := [.data, .pinned], laidTests := true, laidLooks := .later }
def ShipMapsUptoCardSaid : Prop := Claim7.holds Tryd.pinned (.plain (OpenSpec.upto shipMapsSpec)) shipMapsUptoCard

/-- THE SECOND FORM's CARD OF 'mastlaw1.ShipReads'. -/
def shipReadsUptoCard : Claim7 := { stood := { row := shipReadsUptoRow, standIns := [], harness := (true, "2622b14461d32cf88360651446f38bdd9b70d1dd080891bc1ae02bea0dba5c58"), looks := true }, kinds := [], alts := [], laidByText := true, laidKinds := [.data, .data, .data, .data, .pinned], laidTests := true, laidLooks := .later }
def ShipReadsUptoCardSaid : Prop := Claim7.holds Tryd.pinned (.plain (OpenSpec.upto shipReadsSpec)) shipReadsUptoCard

/-- THE SECOND FORM's CARD OF 'mastlaw1.MarkChecks'. -/
def markChecksUptoCard : Claim7 := { stood := { row := markChecksUptoRow, standIns := [], harness := (true, "2622b14461d32cf88360651446f38bdd9b70d1dd080891bc1ae02bea0dba5c58"), looks := true }, kinds := [], alts := [], laidByText := true, laidKinds := [.data, .pinned], laidTests := true, laidLooks := .later }
def MarkChecksUptoCardSaid : Prop := Claim7.holds Tryd.pinned (.plain (OpenSpec.upto markChecksSpec)) markChecksUptoCard

/-- THE SECOND FORM's CARD OF 'mastlaw1.PageSplits'. -/
def pageSplitsUptoCard : Claim7 := { stood := { row := pageSplitsUptoRow, standIns := [], harness := (true, "2622b14461d32cf88360651446f38bdd9b70d1dd080891bc1ae02bea0dba5c58"), looks := true }, kinds := [], alts := [], laidByText := true, laidKinds := [.data, .pinned], laidTests := true, laidLooks := .later }
def PageSplitsUptoCardSaid : Prop := Claim7.holds Tryd.pinned (.plain (OpenSpec.upto pageSplitsSpec)) pageSplitsUptoCard

/-- THE SECOND FORM's CARD OF 'mastlaw1.MarkSections'. -/
def markSectionsUptoCard : Claim7 := { stood := { row := markSectionsUptoRow, standIns := [], harness := (true, "2622b14461d32cf88360651446f38bdd9b70d1dd080891bc1ae02bea0dba5c58"), looks := true }, kinds := [], alts := [], laidByText := true, laidKinds := [.data, .data, .data, .data, .pinned], laidTests := true, laidLooks := .later }
def MarkSectionsUptoCardSaid : Prop := Claim7.holds Tryd.pinned (.plain (OpenSpec.upto markSectionsSpec)) markSectionsUptoCard

/-- THE SECOND FORM's CARD OF 'mastlaw1.MarkIds'. -/
def markIdsUptoCard : Claim7 := { stood := { row := markIdsUptoRow, standIns := [], harness := (true, "2622b14461d32cf88360651446f38bdd9b70d1dd080891bc1ae02bea0dba5c58"), looks := true }, kinds := [], alts := [], laidByText := true, laidKinds := [.data, .data, .data, .data, .pinned], laidTests := true, laidLooks := .later }
def MarkIdsUptoCardSaid : Prop := Claim7.holds Tryd.pinned (.plain (OpenSpec.upto markIdsSpec)) markIdsUptoCard

/-- THE SECOND FORM's CARD OF 'mastlaw1.ShipMoved'. -/
def shipMovedUptoCard : Claim7 := { stood := { row := shipMovedUptoRow, standIns := [], harness := (true, "2622b14461d32cf88360651446f38bdd9b70d1dd080891bc1ae02bea0dba5c58"), looks := true }, kinds := [], alts := [], laidByText := true, laidKinds := [.data, .pinned], laidTests := true, laidLooks := .later }
def ShipMovedUptoCardSaid : Prop := Claim7.holds Tryd.pinned (.plain (OpenSpec.upto shipMovedSpec)) shipMovedUptoCard

/-- THE SECOND FORM's CARD OF 'mastlaw1.ShipApplies'. -/
def shipAppliesUptoCard : Claim7 := { stood := { row := shipAppliesUptoRow, standIns := [], harness := (true, "2622b14461d32cf88360651446f38bdd9b70d1dd080891bc1ae02bea0dba5c58"), looks := true }, kinds := [], alts := [], laidByText := true, laidKinds := [.data, .pinned], laidTests := true, laidLooks := .later }
def ShipAppliesUptoCardSaid : Prop := Claim7.holds Tryd.pinned (.plain (OpenSpec.upto shipAppliesSpec)) shipAppliesUptoCard
end Rows
end Go.Proofs.YtenhhknmpafpdaaDoor
