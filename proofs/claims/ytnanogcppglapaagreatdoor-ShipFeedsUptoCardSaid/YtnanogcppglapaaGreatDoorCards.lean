/-
  DERIVED. GIVEN WITH THE SEED: THE CARDS: each row of YtnanogcppglapaaGreatDoorRows.lean that lists a variable, with what it lists TIED to the program's text (the seventh form; the later family's looks); each row that meets fmt, with fmt's text TOLD by the authors' own Lean function (tested against real Go, not proved from fmt's source: count such statements apart). THE CARD IS WHAT COUNTS. Prove the row's statement (the work); the ties are given (YtnanogcppglapaaGreatDoorTie.lean); close each card by the builder's one call (the guide's Derived/Test/ToyasCard.lean, 'card_holds'). Laid BY PROGRAM, IN A SANDBOX (cutbox-door.mjs). By AI agents, Wed Nov 11 2026. No macro, syntax, notation, axiom, sorry.
-/
import Derived.Test.YtnanogcppglapaaGreatDoorRows
import GoSem.ClaimSeven
namespace Go.Proofs.YtnanogcppglapaaGreatDoor
namespace Rows

/-- THE TIED CARD OF 'mastlaw1.ShipFeeds'. -/
def shipFeedsCard : Claim7 := { stood := { row := shipFeedsRow, standIns := [], harness := (true, "110a75a0fce525e49073b1f350866aa8a516f22adae30273457e67752392d1bf"), looks := true }, kinds := [], alts := [], laidByText := true, laidKinds := [.data, .data, .data, .data, .pinned], laidTests := true, laidLooks := .later }
def ShipFeedsCardSaid : Prop := Claim7.holds Tryz.pinned (.plain (OpenSpec.ofChange shipFeedsSpec)) shipFeedsCard

/-- THE TIED CARD OF 'mastlaw1.ShipSearches'. -/
def shipSearchesCard : Claim7 := { stood := { row := shipSearchesRow, standIns := [], harness := (true, "110a75a0fce525e49073b1f350866aa8a516f22adae30273457e67752392d1bf"), looks := true }, kinds := [], alts := [], laidByText := true, laidKinds := [.data, .data, .data, .data, .pinned], laidTests := true, laidLooks := .later }
def ShipSearchesCardSaid : Prop := Claim7.holds Tryz.pinned (.plain (OpenSpec.ofChange shipSearchesSpec)) shipSearchesCard

/-- THE SECOND FORM's CARD OF 'mastlaw1.ShipFeeds'. -/
def shipFeedsUptoCard : Claim7 := { stood := { row := shipFeedsUptoRow, standIns := [], harness := (true, "110a75a0fce525e49073b1f350866aa8a516f22adae30273457e67752392d1bf"), looks := true }, kinds := [], alts := [], laidByText := true, laidKinds := [.data, .data, .data, .data, .pinned], laidTests := true, laidLooks := .later }
def ShipFeedsUptoCardSaid : Prop := Claim7.holds Tryz.pinned (.plain (OpenSpec.upto shipFeedsSpec)) shipFeedsUptoCard

/-- THE SECOND FORM's CARD OF 'mastlaw1.ShipSearches'. -/
def shipSearchesUptoCard : Claim7 := { stood := { row := shipSearchesUptoRow, standIns := [], harness := (true, "110a75a0fce525e49073b1f350866aa8a516f22adae30273457e67752392d1bf"), looks := true }, kinds := [], alts := [], laidByText := true, laidKinds := [.data, .data, .data, .data, .pinned], laidTests := true, laidLooks := .later }
def ShipSearchesUptoCardSaid : Prop := Claim7.holds Tryz.pinned (.plain (OpenSpec.upto shipSearchesSpec)) shipSearchesUptoCard
end Rows
end Go.Proofs.YtnanogcppglapaaGreatDoor
