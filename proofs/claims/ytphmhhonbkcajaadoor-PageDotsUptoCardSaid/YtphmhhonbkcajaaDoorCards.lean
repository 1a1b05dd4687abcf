/-
  DERIVED. GIVEN WITH THE SEED: THE CARDS: each row of YtphmhhonbkcajaaDoorRows.lean that lists a variable, with what it lists TIED to the program's text (the seventh form; the later family's looks); each row that meets fmt, with fmt's text TOLD by the authors' own Lean function (tested against real Go, not proved from fmt's source: count such statements apart). THE CARD IS WHAT COUNTS. Prove the row's statement (the work); the ties are given (YtphmhhonbkcajaaDoorTie.lean); close each card by the builder's one call (the guide's Derived/Test/ToyasCard.lean, 'card_holds'). Laid BY PROGRAM, IN A SANDBOX (cutbox-door.mjs). By AI agents, Wed Nov 11 2026. No macro, syntax, notation, axiom, sorry.
-/
import Derived.Test.YtphmhhonbkcajaaDoorRows
import GoSem.ClaimSeven
namespace Go.Proofs.YtphmhhonbkcajaaDoor
namespace Rows

/-- THE TIED CARD OF 'mastlaw1.PageDots'. -/
def pageDotsCard : Claim7 := { stood := { row := pageDotsRow, standIns := [], harness := (true, "33a507961c1b892aea78fc47957faadae53f3a224176cc411010dcb70ba9f98c"), looks := false }, kinds := [], alts := [], laidByText := true, laidKinds := [.listed, .data], laidTests := true, laidLooks := .later }
def PageDotsCardSaid : Prop := Claim7.holds Tryd.pinned (.plain (OpenSpec.ofChange pageDotsSpec)) pageDotsCard

/-- THE SECOND FORM's CARD OF 'mastlaw1.PageDots'. -/
def pageDotsUptoCard : Claim7 := { stood := { row := pageDotsUptoRow, standIns := [], harness := (true, "33a507961c1b892aea78fc47957faadae53f3a224176cc411010dcb70ba9f98c"), looks := false }, kinds := [], alts := [], laidByText := true, laidKinds := [.listed, .data], laidTests := true, laidLooks := .later }
def PageDotsUptoCardSaid : Prop := Claim7.holds Tryd.pinned (.plain (OpenSpec.upto pageDotsSpec)) pageDotsUptoCard
end Rows
end Go.Proofs.YtphmhhonbkcajaaDoor
