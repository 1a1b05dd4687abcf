/-
  Rows of the call's own: copy within a row, one cell stored, the library's sort, all with the other blocks left as they are.
-/
import Derived.Test.YtbhildmalcfhiaaGreatDoorOwn
import Derived.Test.YtbhildmalcfhiaaGreatDoorEqualStrs
import Derived.Laws.CopyOwn
import Derived.Deep.RegionLaw
import Derived.Sort.OwnSorted
namespace Go.Proofs.YtbhildmalcfhiaaGreatDoor
open Go.RowKit Go.Deep

theorem grown_below {a b : World} {r : Option Nat} (h : Below a.heap.size a b) : a.grownBy b r := ⟨h.os, h.tape, h.output, h.size, fun x hx _ => h.block x hx⟩

end Go.Proofs.YtbhildmalcfhiaaGreatDoor
