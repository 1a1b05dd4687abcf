/-
  slices.Equal at []string.
-/
import Derived.Test.YtphmhhonbkcajaaDoorBytes
import Derived.BigQuiet
import Derived.Deep.QuietTactic
import Derived.Outline
import Derived.RegionTactic
namespace Go.Proofs.YtphmhhonbkcajaaDoor
open Go.RowKit Go.Deep

/-- a list of byte strings as cells -/
def strCells (l : List (List UInt8)) : List Value := l.map fun s => .string ⟨s.toArray⟩

theorem drop_eq_iff' {α : Type} [BEq α] [LawfulBEq α] {l1 l2 : List α} {k : Nat} {a b : α} (h1 : l1[k]? = some a) (h2 : l2[k]? = some b) :
    (l1.drop k == l2.drop k) = (a == b && l1.drop (k + 1) == l2.drop (k + 1)) := by
  obtain ⟨a1, rfl⟩ := List.getElem?_eq_some_iff.1 h1
  obtain ⟨a2, rfl⟩ := List.getElem?_eq_some_iff.1 h2
  rw [List.drop_eq_getElem_cons a1, List.drop_eq_getElem_cons a2]
  rfl

end Go.Proofs.YtphmhhonbkcajaaDoor
