/-
  DERIVED. GIVEN WITH THE SEED: THE CARDS: each row of YtebhbgamdhjdkaaDoorRows.lean that lists a variable, with what it lists TIED to the program's text (the seventh form; the later family's looks); each row that meets fmt, with fmt's text TOLD by the authors' own Lean function (tested against real Go, not proved from fmt's source: count such statements apart). THE CARD IS WHAT COUNTS. Prove the row's statement (the work); the ties are given (YtebhbgamdhjdkaaDoorTie.lean); close each card by the builder's one call (the guide's Derived/Test/ToyasCard.lean, 'card_holds'). Laid BY PROGRAM, IN A SANDBOX (cutbox-door.mjs). By AI agents, Wed Nov 11 2026. No macro, syntax, notation, axiom, sorry.
-/
import Derived.Test.YtebhbgamdhjdkaaDoorRows
import GoSem.ClaimSeven
namespace Go.Proofs.YtebhbgamdhjdkaaDoor
namespace Rows

/-- THE TIED CARD OF 'mastlaw1.PageTargets'. -/
def pageTargetsCard : Claim7 := { stood := { row := pageTargetsRow, standIns := [], harness := (true, "e3c102d411dc7bdf94f1349125cc3d41f168a3b8a4610d2936c5d4bef65cfafe"), looks := false }, kinds := [], alts := [], laidByText := true, laidKinds := [.data, .pinned], laidTests := true, laidLooks := .later }
def PageTargetsCardSaid : Prop := Claim7.holds Tryd.pinned (.plain (OpenSpec.ofChange pageTargetsSpec)) pageTargetsCard

/-- THE TIED CARD OF 'mastlaw1.BuildFacts'. -/
def buildFactsCard : Claim7 := { stood := { row := buildFactsRow, standIns := [], harness := (true, "e3c102d411dc7bdf94f1349125cc3d41f168a3b8a4610d2936c5d4bef65cfafe"), looks := false }, kinds := [], alts := [], laidByText := true, laidKinds := [.listed, .data], laidTests := true, laidLooks := .later }
def BuildFactsCardSaid : Prop := Claim7.holds Tryd.pinned (.plain (OpenSpec.ofChange buildFactsSpec)) buildFactsCard

/-- THE TIED CARD OF 'mastlaw1.PageSections'. -/
def pageSectionsCard : Claim7 := { stood := { row := pageSectionsRow, standIns := [], harness := (true, "e3c102d411dc7bdf94f1349125cc3d41f168a3b8a4610d2936c5d4bef65cfafe"), looks := false }, kinds := [], alts := [], laidByText := true, laidKinds := [.data, .data, .data], laidTests := true, laidLooks := .later }
def PageSectionsCardSaid : Prop := Claim7.holds Tryd.pinned (.plain (OpenSpec.ofChange pageSectionsSpec)) pageSectionsCard

/-- THE TIED CARD OF 'mastlaw1.TmplQuotes'. -/
def tmplQuotesCard : Claim7 := { stood := { row := tmplQuotesRow, standIns := [], harness := (true, "e3c102d411dc7bdf94f1349125cc3d41f168a3b8a4610d2936c5d4bef65cfafe"), looks := false }, kinds := [], alts := [], laidByText := true, laidKinds := [.data, .data, .data], laidTests := true, laidLooks := .later }
def TmplQuotesCardSaid : Prop := Claim7.holds Tryd.pinned (.plain (OpenSpec.ofChange tmplQuotesSpec)) tmplQuotesCard

/-- THE TIED CARD OF 'mastlaw1.PageSplits'. -/
def pageSplitsCard : Claim7 := { stood := { row := pageSplitsRow, standIns := [], harness := (true, "e3c102d411dc7bdf94f1349125cc3d41f168a3b8a4610d2936c5d4bef65cfafe"), looks := false }, kinds := [], alts := [], laidByText := true, laidKinds := [.data, .pinned], laidTests := true, laidLooks := .later }
def PageSplitsCardSaid : Prop := Claim7.holds Tryd.pinned (.plain (OpenSpec.ofChange pageSplitsSpec)) pageSplitsCard

/-- THE SECOND FORM's CARD OF 'mastlaw1.PageTargets'. -/
def pageTargetsUptoCard : Claim7 := { stood := { row := pageTargetsUptoRow, standIns := [], harness := (true, "e3c102d411dc7bdf94f1349125cc3d41f168a3b8a4610d2936c5d4bef65cfafe"), looks := false }, kinds := [], alts := [], laidByText := true, laidKinds := [.data, .pinned], laidTests := true, laidLooks := .later }
def PageTargetsUptoCardSaid : Prop := Claim7.holds Tryd.pinned (.plain (OpenSpec.upto pageTargetsSpec)) pageTargetsUptoCard

/-- THE SECOND FORM's CARD OF 'mastlaw1.BuildFacts'. -/
def buildFactsUptoCard : Claim7 := { stood := { row := buildFactsUptoRow, standIns := [], harness := (true, "e3c102d411dc7bdf94f1349125cc3d41f168a3b8a4610d2936c5d4bef65cfafe"), looks := false }, kinds := [], alts := [], laidByText := true, laidKinds := [.listed, .data], laidTests := true, laidLooks := .later }
def BuildFactsUptoCardSaid : Prop := Claim7.holds Tryd.pinned (.plain (OpenSpec.upto buildFactsSpec)) buildFactsUptoCard

/-- THE SECOND FORM's CARD OF 'mastlaw1.PageSections'. -/
def pageSectionsUptoCard : Claim7 := { stood := { row := pageSectionsUptoRow, standIns := [], harness := (true, "e3c102d411dc7bdf94f1349125cc3d41f168a3b8a4610d2936c5d4bef65cfafe"), looks := false }, kinds := [], alts := [], laidByText := true, laidKinds := [.data, .data, .data], laidTests := true, laidLooks := .later }
def PageSectionsUptoCardSaid : Prop := Claim7.holds Tryd.pinned (.plain (OpenSpec.upto pageSectionsSpec)) pageSectionsUptoCard

/-- THE SECOND FORM's CARD OF 'mastlaw1.TmplQuotes'. -/
def tmplQuotesUptoCard : Claim7 := { stood := { row := tmplQuotesUptoRow, standIns := [], harness := (true, "e3c102d411dc7bdf94f1349125cc3d41f168a3b8a4610d2936c5d4bef65cfafe"), looks := false }, kinds := [], alts := [], laidByText := true, laidKinds := [.data, .data, .data], laidTests := true, laidLooks := .later }
def TmplQuotesUptoCardSaid : Prop := Claim7.holds Tryd.pinned (.plain (OpenSpec.upto tmplQuotesSpec)) tmplQuotesUptoCard

/-- THE SECOND FORM's CARD OF 'mastlaw1.PageSplits'. -/
def pageSplitsUptoCard : Claim7 := { stood := { row := pageSplitsUptoRow, standIns := [], harness := (true, "e3c102d411dc7bdf94f1349125cc3d41f168a3b8a4610d2936c5d4bef65cfafe"), looks := false }, kinds := [], alts := [], laidByText := true, laidKinds := [.data, .pinned], laidTests := true, laidLooks := .later }
def PageSplitsUptoCardSaid : Prop := Claim7.holds Tryd.pinned (.plain (OpenSpec.upto pageSplitsSpec)) pageSplitsUptoCard
end Rows
end Go.Proofs.YtebhbgamdhjdkaaDoor
