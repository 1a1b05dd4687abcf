/-
  slices.Equal at []string.
-/
import Derived.Test.YtbhildmalcfhiaaGreatDoorBytes
import Derived.BigQuiet
import Derived.Deep.QuietTactic
import Derived.Outline
import Derived.RegionTactic
namespace Go.Proofs.YtbhildmalcfhiaaGreatDoor
open Go.RowKit Go.Deep

/-- a list of byte strings as cells -/
def strCells (l : List (List UInt8)) : List Value := l.map fun s => .string ⟨s.toArray⟩

end Go.Proofs.YtbhildmalcfhiaaGreatDoor
