/-
  strings.Builder: writing into one that the call has made.
-/
import Derived.Test.YtogjhcmaapplgaaDoorBytes
import Derived.Lib.Builder
import Derived.Lib.AppendStr
import Derived.Outline
import Derived.Deep.DeepMust
namespace Go.Proofs.YtogjhcmaapplgaaDoor
open Go.RowKit

theorem info_byte : (Tryd.prog.info? 5).map (fun i => (i.zero, i.size, i.bytes)) = some (some (.int .u8 0), 1, 1) := by kernel_rfl
end Go.Proofs.YtogjhcmaapplgaaDoor
