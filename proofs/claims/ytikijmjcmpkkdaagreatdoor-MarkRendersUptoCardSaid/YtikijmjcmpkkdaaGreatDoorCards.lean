/-
  DERIVED. GIVEN WITH THE SEED: THE CARDS: each row of YtikijmjcmpkkdaaGreatDoorRows.lean that lists a variable, with what it lists TIED to the program's text (the seventh form; the later family's looks); each row that meets fmt, with fmt's text TOLD by the authors' own Lean function (tested against real Go, not proved from fmt's source: count such statements apart). THE CARD IS WHAT COUNTS. Prove the row's statement (the work); the ties are given (YtikijmjcmpkkdaaGreatDoorTie.lean); close each card by the builder's one call (the guide's Derived/Test/ToyasCard.lean, 'card_holds'). Laid BY PROGRAM, IN A SANDBOX (cutbox-door.mjs). By AI agents, Wed Nov 11 2026. No macro, syntax, notation, axiom, sorry.
-/
import Derived.Test.YtikijmjcmpkkdaaGreatDoorRows
import GoSem.ClaimSeven
namespace Go.Proofs.YtikijmjcmpkkdaaGreatDoor
namespace Rows

/-- THE TIED CARD OF 'mastlaw1.MarkRenders'. -/
def markRendersCard : Claim7 := { stood := { row := markRendersRow, standIns := [], harness := (true, "27a31963c94d204abfc1c85f50a92901dd49c1be22473e153e1a8505a07198ae"), looks := true }, kinds := [], alts := [], laidByText := true, laidKinds := [.data, .data, .data, .data, .pinned], laidTests := true, laidLooks := .later }
def MarkRendersCardSaid : Prop := Claim7.holds Tryz.pinned (.plain (OpenSpec.ofChange markRendersSpec)) markRendersCard

/-- THE TIED CARD OF 'mastlaw1.MarkPrints'. -/
def markPrintsCard : Claim7 := { stood := { row := markPrintsRow, standIns := [], harness := (true, "27a31963c94d204abfc1c85f50a92901dd49c1be22473e153e1a8505a07198ae"), looks := true }, kinds := [], alts := [], laidByText := true, laidKinds := [.data, .data, .data, .data, .pinned], laidTests := true, laidLooks := .later }
def MarkPrintsCardSaid : Prop := Claim7.holds Tryz.pinned (.plain (OpenSpec.ofChange markPrintsSpec)) markPrintsCard

/-- THE SECOND FORM's CARD OF 'mastlaw1.MarkRenders'. -/
def markRendersUptoCard : Claim7 := { stood := { row := markRendersUptoRow, standIns := [], harness := (true, "27a31963c94d204abfc1c85f50a92901dd49c1be22473e153e1a8505a07198ae"), looks := true }, kinds := [], alts := [], laidByText := true, laidKinds := [.data, .data, .data, .data, .pinned], laidTests := true, laidLooks := .later }
def MarkRendersUptoCardSaid : Prop := Claim7.holds Tryz.pinned (.plain (OpenSpec.upto markRendersSpec)) markRendersUptoCard

/-- THE SECOND FORM's CARD OF 'mastlaw1.MarkPrints'. -/
def markPrintsUptoCard : Claim7 := { stood := { row := markPrintsUptoRow, standIns := [], harness := (true, "27a31963c94d204abfc1c85f50a92901dd49c1be22473e153e1a8505a07198ae"), looks := true }, kinds := [], alts := [], laidByText := true, laidKinds := [.data, .data, .data, .data, .pinned], laidTests := true, laidLooks := .later }
def MarkPrintsUptoCardSaid : Prop := Claim7.holds Tryz.pinned (.plain (OpenSpec.upto markPrintsSpec)) markPrintsUptoCard
end Rows
end Go.Proofs.YtikijmjcmpkkdaaGreatDoor
