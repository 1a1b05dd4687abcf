/-
  DERIVED. GIVEN WITH THE SEED: THE CARDS: each row of YtcpknoikjanclaaDoorRows.lean that lists a variable, with what it lists TIED to the program's text (the seventh form; the later family's looks); each row that meets fmt, with fmt's text TOLD by the authors' own Lean function (tested against real Go, not proved from fmt's source: count such statements apart). THE CARD IS WHAT COUNTS. Prove the row's statement (the work); the ties are given (YtcpknoikjanclaaDoorTie.lean); close each card by the builder's one call (the guide's Derived/Test/ToyasCard.lean, 'card_holds'). Laid BY PROGRAM, IN A SANDBOX (cutbox-door.mjs). By AI agents, Wed Nov 11 2026. No macro, syntax, notation, axiom, sorry.
-/
import Derived.Test.YtcpknoikjanclaaDoorRows
import GoSem.ClaimSeven
namespace Go.Proofs.YtcpknoikjanclaaDoor
namespace Rows

/-- THE TIED CARD OF 'mastlaw1.ShipOuts'. -/
def shipOutsCard : Claim7 := { stood := { row := shipOutsRow, standIns := [], harness := (true, "5f6489513eb17a6e9933e980ae11995b77352cf8522cea52484260c14b07c3f3"), looks := false }, kinds := [], alts := [], laidByText := true, laidKinds := [.data, .pinned], laidTests := true, laidLooks := .later }
def ShipOutsCardSaid : Prop := Claim7.holds Tryd.pinned (.plain (OpenSpec.ofChange shipOutsSpec)) shipOutsCard

/-- THE TIED CARD OF 'mastlaw1.ShipAddresses'. -/
def shipAddressesCard : Claim7 := { stood := { row := shipAddressesRow, standIns := [], harness := (true, "5f6489513eb17a6e9933e980ae11995b77352cf8522cea52484260c14b07c3f3"), looks := false }, kinds := [], alts := [], laidByText := true, laidKinds := [.data, .pinned], laidTests := true, laidLooks := .later }
def ShipAddressesCardSaid : Prop := Claim7.holds Tryd.pinned (.plain (OpenSpec.ofChange shipAddressesSpec)) shipAddressesCard

/-- THE TIED CARD OF 'mastlaw1.PageSections'. -/
def pageSectionsCard : Claim7 := { stood := { row := pageSectionsRow, standIns := [], harness := (true, "5f6489513eb17a6e9933e980ae11995b77352cf8522cea52484260c14b07c3f3"), looks := false }, kinds := [], alts := [], laidByText := true, laidKinds := [.data, .data, .data], laidTests := true, laidLooks := .later }
def PageSectionsCardSaid : Prop := Claim7.holds Tryd.pinned (.plain (OpenSpec.ofChange pageSectionsSpec)) pageSectionsCard

/-- THE SECOND FORM's CARD OF 'mastlaw1.ShipOuts'. -/
def shipOutsUptoCard : Claim7 := { stood := { row := shipOutsUptoRow, standIns := [], harness := (true, "5f6489513eb17a6e9933e980ae11995b77352cf8522cea52484260c14b07c3f3"), looks := false }, kinds := [], alts := [], laidByText := true, laidKinds := [.data, .pinned], laidTests := true, laidLooks := .later }
def ShipOutsUptoCardSaid : Prop := Claim7.holds Tryd.pinned (.plain (OpenSpec.upto shipOutsSpec)) shipOutsUptoCard

/-- THE SECOND FORM's CARD OF 'mastlaw1.ShipAddresses'. -/
def shipAddressesUptoCard : Claim7 := { stood := { row := shipAddressesUptoRow, standIns := [], harness := (true, "5f6489513eb17a6e9933e980ae11995b77352cf8522cea52484260c14b07c3f3"), looks := false }, kinds := [], alts := [], laidByText := true, laidKinds := [.data, .pinned], laidTests := true, laidLooks := .later }
def ShipAddressesUptoCardSaid : Prop := Claim7.holds Tryd.pinned (.plain (OpenSpec.upto shipAddressesSpec)) shipAddressesUptoCard

/-- THE SECOND FORM's CARD OF 'mastlaw1.PageSections'. -/
def pageSectionsUptoCard : Claim7 := { stood := { row := pageSectionsUptoRow, standIns := [], harness := (true, "5f6489513eb17a6e9933e980ae11995b77352cf8522cea52484260c14b07c3f3"), looks := false }, kinds := [], alts := [], laidByText := true, laidKinds := [.data, .data, .data], laidTests := true, laidLooks := .later }
def PageSectionsUptoCardSaid : Prop := Claim7.holds Tryd.pinned (.plain (OpenSpec.upto pageSectionsSpec)) pageSectionsUptoCard
end Rows
end Go.Proofs.YtcpknoikjanclaaDoor
