/-
  (*strings.Builder).WriteString, with what it keeps: blocks of cells that are no bytes and not the builder's.
-/
import Derived.Test.YtbhildmalcfhiaaGreatDoorBuilder
import Derived.Test.YtbhildmalcfhiaaGreatDoorBox
namespace Go.Proofs.YtbhildmalcfhiaaGreatDoor
open Go.RowKit

theorem CB.set_other {w : World} {n m o : Nat} {t : TypeId} {cs : Array Value} (h : CB w n t cs) (hne : n ≠ m) (v : Value) : CB (w.setCell ⟨m, o, none⟩ v) n t cs := h.other (grown_setB w m o v) (by simpa using hne)
/-- blocks of cells that are no bytes and not block b stay as they are -/
def KeepB (b : Nat) (w w' : World) : Prop := ∀ (n : Nat) (t : TypeId) (cs : Array Value), CB w n t cs → t ≠ 5 → n ≠ b → CB w' n t cs
theorem KeepB.refl (b : Nat) (w : World) : KeepB b w w := fun _ _ _ h _ _ => h
theorem KeepB.trans {b : Nat} {x y z : World} (h : KeepB b x y) (k : KeepB b y z) : KeepB b x z := fun n t cs hc ht hn => k n t cs (h n t cs hc ht hn) ht hn
theorem KeepB.set (w : World) (b o : Nat) (v : Value) : KeepB b w (w.setCell ⟨b, o, none⟩ v) := fun _ _ _ h _ hn => h.set_other hn v
theorem KeepB.grown {b : Nat} {w w' : World} {B : Nat} {v : Value} {n : Nat} {xs : List Value} (h : w.ownsRow B 5 1 v n xs) (hg : w.grownBy w' v.ownBlock) : KeepB b w w' := by
  intro m t cs hc ht _
  refine (hg.block m hc.lt ?_).trans hc
  intro e
  rcases h.2 with ⟨rfl, rfl⟩ | ⟨g, cap, cur, rfl, hB, hgg, _⟩
  · simp [Value.ownBlock] at e
  · have e2 : m = g := by simpa [Value.ownBlock] using e
    subst e2
    have := hc.symm.trans hgg
    simp at this
    exact ht this.2
end Go.Proofs.YtbhildmalcfhiaaGreatDoor
