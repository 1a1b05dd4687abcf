/-
  The signs of HTML written as names, plainly; a byteStringReplacer as it lies in memory.
-/
import Derived.Test.YtbhildmalcfhiaaGreatDoorBytes
import Derived.Test.YtbhildmalcfhiaaGreatDoorOwn
import Derived.Lib.Bytealg
namespace Go.Proofs.YtbhildmalcfhiaaGreatDoor
open Go.RowKit Go.Deep

def escF (c : UInt8) : Option (List UInt8) := if c = 38 then some [38, 97, 109, 112, 59] else if c = 60 then some [38, 108, 116, 59] else if c = 62 then some [38, 103, 116, 59] else if c = 34 then some [38, 113, 117, 111, 116, 59] else none
def escB (c : UInt8) : List UInt8 := (escF c).getD [c]
def escL (l : List UInt8) : List UInt8 := l.flatMap escB
/-- by how much a byte grows -/
def escG (c : UInt8) : Nat := (escB c).length - 1
def gainL (l : List UInt8) : Nat := (l.map escG).sum
def anyL (l : List UInt8) : Bool := l.any fun c => (escF c).isSome
def trB : List UInt8 := [34, 62, 60, 38]

/-- by the counts: what the first k signs of the replacer add -/
def gainK (l : List UInt8) (k : Nat) : Nat := ((trB.take k).map fun x => l.count x * escG x).sum
def anyK (l : List UInt8) (k : Nat) : Bool := (trB.take k).any fun x => decide (l.count x ≠ 0)
/-- the replacer in block b -/
structure ReplAt (w : World) (b : Nat) : Prop where
  no : ∀ c : UInt8, escF c = none → w.cell? ⟨b, c.toNat, none⟩ = some (.slice none 0 0)
  yes : ∀ (c : UInt8) (l : List UInt8), escF c = some l → ∃ g cap, w.cell? ⟨b, c.toNat, none⟩ = some (.slice (some ⟨g, 0, none⟩) l.length cap) ∧ l.length ≤ cap ∧ cap ≤ 9223372036854775807 ∧ ∀ (j : Nat) (x : UInt8), l[j]? = some x → w.cell? ⟨g, j, none⟩ = some (.int .u8 x.toNat)
  tr : ∃ g cap, w.cell? ⟨b, 256, none⟩ = some (.slice (some ⟨g, 0, none⟩) 4 cap) ∧ 4 ≤ cap ∧ cap ≤ 9223372036854775807 ∧ ∀ (j : Nat) (x : UInt8), trB[j]? = some x → w.cell? ⟨g, j, none⟩ = some (.string ⟨#[x]⟩)
  sh : w.shape? b = some (269, 257)
theorem ReplAt.below {w w' : World} {b : Nat} (h : ReplAt w b) (hb : Below w.heap.size w w') : ReplAt w' b := by
  have k := Keeps.of_below hb
  refine ⟨fun c hc => k _ _ (h.no c hc), fun c l hc => ?_, ?_, ?_⟩
  · obtain ⟨g, cap, h1, h2, h3, h4⟩ := h.yes c l hc
    exact ⟨g, cap, k _ _ h1, h2, h3, fun j x hj => k _ _ (h4 j x hj)⟩
  · obtain ⟨g, cap, h1, h2, h3, h4⟩ := h.tr
    exact ⟨g, cap, k _ _ h1, h2, h3, fun j x hj => k _ _ (h4 j x hj)⟩
  · have hs := h.sh
    have hlt : b < w.heap.size := by
      have := h.no 0 (by decide)
      exact World.block_lt_of_cell? _ _ this
    unfold World.shape? at hs ⊢
    rw [hb.block b hlt]
    exact hs

end Go.Proofs.YtbhildmalcfhiaaGreatDoor
