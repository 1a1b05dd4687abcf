/-
  The error of an index's documents and sizes: ship.docsFault, mastref1.docsError.
-/
import Derived.Test.YtogjhcmaapplgaaDoorIdxPlain
import Derived.Test.YtogjhcmaapplgaaDoorBox
import Derived.BigQuiet
import Derived.Deep.QuietTactic
import Derived.RegionTactic
namespace Go.Proofs.YtogjhcmaapplgaaDoor
open Go.RowKit Go.ChangeShapes Go.WideShapes Go.Deep

def MaxAt (w : World) : Prop := ∃ m, w.cell? ⟨0, 0, none⟩ = some (.int .i64 m)
theorem MaxAt.keep {w w' : World} (h : MaxAt w) (k : Keeps w w') : MaxAt w' := by obtain ⟨m, hm⟩ := h; exact ⟨m, k _ _ hm⟩

end Go.Proofs.YtogjhcmaapplgaaDoor
