/-
  DERIVED. GIVEN WITH THE SEED: THE CARDS: each row of YtnoiipngingdoaaDoorRows.lean that lists a variable, with what it lists TIED to the program's text (the seventh form; the later family's looks); each row that meets fmt, with fmt's text TOLD by the authors' own Lean function (tested against real Go, not proved from fmt's source: count such statements apart). THE CARD IS WHAT COUNTS. Prove the row's statement (the work); the ties are given (YtnoiipngingdoaaDoorTie.lean); close each card by the builder's one call (the guide's Derived/Test/ToyasCard.lean, 'card_holds'). Laid BY PROGRAM, IN A SANDBOX (cutbox-door.mjs). By AI agents, Wed Nov 11 2026. No macro, syntax, notation, axiom, sorry.
-/
import Derived.Test.YtnoiipngingdoaaDoorRows
import GoSem.ClaimSeven
namespace Go.Proofs.YtnoiipngingdoaaDoor
namespace Rows

/-- THE TIED CARD OF 'mastlaw1.BuildFacts'. -/
def buildFactsCard : Claim7 := { stood := { row := buildFactsRow, standIns := [], harness := (true, "86b73a85e9296f6a2aa37b9f56be4c62fa25c069c760bb53621a97952a2878ea"), looks := false }, kinds := [], alts := [], laidByText := true, laidKinds := [.listed, .data], laidTests := true, laidLooks := .later }
def BuildFactsCardSaid : Prop := Claim7.holds Tryd.pinned (.plain (OpenSpec.ofChange buildFactsSpec)) buildFactsCard

/-- THE SECOND FORM's CARD OF 'mastlaw1.BuildFacts'. -/
def buildFactsUptoCard : Claim7 := { stood := { row := buildFactsUptoRow, standIns := [], harness := (true, "86b73a85e9296f6a2aa37b9f56be4c62fa25c069c760bb53621a97952a2878ea"), looks := false }, kinds := [], alts := [], laidByText := true, laidKinds := [.listed, .data], laidTests := true, laidLooks := .later }
def BuildFactsUptoCardSaid : Prop := Claim7.holds Tryd.pinned (.plain (OpenSpec.upto buildFactsSpec)) buildFactsUptoCard
end Rows
end Go.Proofs.YtnoiipngingdoaaDoor
