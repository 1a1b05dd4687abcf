/-
  A cell of an own row is written; two neighbours are swapped.
-/
import Derived.Test.YtmcelgokchhpfaaGreatDoorOwn
import Derived.Test.YtmcelgokchhpfaaGreatDoorRowOps
namespace Go.Proofs.YtmcelgokchhpfaaGreatDoor
open Go.RowKit Go.Deep

theorem own_put {w : World} {B K g cap n : Nat} {e : TypeId} {xs : List Value} (h : w.ownsRow B e K (.slice (some ⟨g, 0, none⟩) n cap) n xs) (o : Nat) (v : Value) :
    (w.setCell ⟨g, o, none⟩ v).ownsRow B e K (.slice (some ⟨g, 0, none⟩) n cap) n (xs.set o v) := by
  obtain ⟨hl, h2⟩ := h
  rcases h2 with ⟨h3, _⟩ | ⟨g', cap', cur, h3, hB, hg, hnc, hm, hsz, htake⟩
  · cases h3
  · cases h3
    refine ⟨by rw [List.length_set]; exact hl, Or.inr ⟨g, cap, cur.setIfInBounds o v, rfl, hB, ?_, hnc, hm, by simpa using hsz, ?_⟩⟩
    · exact heap_setCell_same w g o cur e v hg
    · rw [← htake]
      simp [List.take_set]
theorem set_app {α : Type} (P l : List α) (i : Nat) (v : α) : (P ++ l).set (P.length + i) v = P ++ l.set i v := by
  rw [List.set_append_right _ _ (by omega), show P.length + i - P.length = i by omega]
theorem swap4 {α : Type} (P D : List α) (a b c d : α) {k : Nat} (hk : P.length = 2 * k) :
    ((((P ++ a :: b :: c :: d :: D).set (2 * (k + 1)) a).set (2 * (k + 1) + 1) b).set (2 * k) c).set (2 * k + 1) d = P ++ c :: d :: a :: b :: D := by
  rw [← hk, show 2 * (k + 1) + 1 = P.length + 3 by omega, show 2 * (k + 1) = P.length + 2 by omega, set_app, set_app, show P.length = P.length + 0 from rfl, set_app, Nat.add_zero, set_app]
  rfl

end Go.Proofs.YtmcelgokchhpfaaGreatDoor
