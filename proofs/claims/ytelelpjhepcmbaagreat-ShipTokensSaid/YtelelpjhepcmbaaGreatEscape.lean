/-
  mark.Escape.
-/
import Derived.Test.YtelelpjhepcmbaaGreatEscDo
import Derived.Test.YtelelpjhepcmbaaGreatEscRef
namespace Go.Proofs.YtelelpjhepcmbaaGreat
open Go.RowKit Go.Deep

theorem cell_laidE (w : World) (l : List ByteArray) (t k : Nat) (p : ByteArray) (h : l[k]? = some p) : (w.alloc (.cells (l.map Value.string).toArray t)).cell? ⟨w.heap.size, k, none⟩ = some (.string p) :=
  cell_new w (l.map Value.string) t w.heap.size rfl k _ (by simp [h])
theorem esc_cells (w : World) (cs : Array Value) (h : cs = (oldNew.map Value.string).toArray) (j : Nat) (x : ByteArray) (hj : oldNew[j]? = some x) : (w.alloc (.cells cs 9)).cell? ⟨w.heap.size, j, none⟩ = some (.string x) := by
  subst h
  exact cell_laidE w oldNew 9 j x hj

end Go.Proofs.YtelelpjhepcmbaaGreat
