/-
  mark.clone: a document copied into the call's own memory.
-/
import Derived.Test.YtikijmjcmpkkdaaGreatDoorCheck7
import Derived.Test.YtikijmjcmpkkdaaGreatDoorTree
namespace Go.Proofs.YtikijmjcmpkkdaaGreatDoor
open Go.RowKit Go.Deep

theorem info_node : (Tryz.prog.info? 45).map (fun i => (i.zero, i.size, i.bytes)) = some (some (.agg #[.int .i64 0, .int .i64 0, .string ⟨#[]⟩, .string ⟨#[]⟩, .string ⟨#[]⟩, .slice none 0 0]), 6, 88) := by kernel_rfl

/-- a tree of the call's own, and old memory as it was -/
def Made (w : World) (l : List Node) (e : Ending) (w' : World) : Prop := ∃ u, e = .returned u ∧ TreeAt w' w.heap.size (span w.heap.size w'.heap.size) u l ∧ Below w.heap.size w w'

theorem six_cells (n : Node) (u : Value) (hu : u.oneCell' = true) : ∀ x ∈ nodeVals n u, x.oneCell' = true := by
  intro x hx
  simp only [nodeVals, List.mem_cons, List.not_mem_nil, or_false] at hx
  rcases hx with rfl | rfl | rfl | rfl | rfl | rfl <;> first | rfl | exact hu

theorem TreeAt.slice {w : World} {B : Nat} {P : Nat → Prop} {v : Value} {l : List Node} (h : TreeAt w B P v l) : ∃ A c, v = .slice A l.length c := by
  obtain ⟨ps, rfl, hq⟩ := h.inv
  obtain ⟨A, c, rfl, _⟩ := own_form hq.own
  exact ⟨A, c, by simp⟩

end Go.Proofs.YtikijmjcmpkkdaaGreatDoor
