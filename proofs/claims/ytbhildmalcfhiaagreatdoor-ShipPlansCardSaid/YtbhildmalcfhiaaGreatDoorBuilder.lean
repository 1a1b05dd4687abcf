/-
  strings.Builder: writing into one that the call has made.
-/
import Derived.Test.YtbhildmalcfhiaaGreatDoorBytes
import Derived.Lib.Builder
import Derived.Lib.AppendStr
import Derived.Outline
import Derived.Deep.DeepMust
namespace Go.Proofs.YtbhildmalcfhiaaGreatDoor
open Go.RowKit

/-- a builder in block b that holds those bytes -/
abbrev Bld (B b : Nat) (l : List UInt8) (w : World) : Prop := Lib.IsBuilder 186 5 B b (byteCells l) w

theorem neB5 : (186 : TypeId) ≠ 5 := by decide

end Go.Proofs.YtbhildmalcfhiaaGreatDoor
