/-
  mastref1.Escaped.
-/
import Derived.Test.YtbhildmalcfhiaaGreatDoorEscPlain
import Derived.BigQuiet
import Derived.Deep.QuietTactic
import Derived.RegionTactic
import Derived.Laws.Strings2
import Derived.WalkSpells
import Derived.Deep.DeepMust
import Derived.Outline
namespace Go.Proofs.YtbhildmalcfhiaaGreatDoor
open Go.RowKit Go.Deep

end Go.Proofs.YtbhildmalcfhiaaGreatDoor
