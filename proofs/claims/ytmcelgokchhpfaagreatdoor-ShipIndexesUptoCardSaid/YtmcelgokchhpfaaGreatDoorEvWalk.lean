/-
  The places of outputs by path, and the map of bodies.
-/
import Derived.Test.YtmcelgokchhpfaaGreatDoorEvPlain
import Derived.Test.YtmcelgokchhpfaaGreatDoorOwn
namespace Go.Proofs.YtmcelgokchhpfaaGreatDoor
open Go.RowKit Go.Deep

def outAtN (l : List OutV) (s : List UInt8) : Option Nat := l.findIdx? (fun o => o.path.data.toList == s)
def outAtI (l : List OutV) (s : List UInt8) : Int := match outAtN l s with | some i => (i : Int) | none => -1

theorem outAt_hit {l : List OutV} {s : List UInt8} {j : Nat} {x : OutV} (h : ∀ (i : Nat) (y : OutV), i < j → l[i]? = some y → y.path.data.toList ≠ s) (hx : l[j]? = some x) (hs : x.path.data.toList = s) : outAtN l s = some j := by
  obtain ⟨hj, rfl⟩ := List.getElem?_eq_some_iff.1 hx
  rw [outAtN, List.findIdx?_eq_some_iff_getElem]
  refine ⟨hj, by simpa using hs, fun i hi => ?_⟩
  have := h i l[i] hi (List.getElem?_eq_getElem (by omega))
  simpa using this
theorem outAt_miss {l : List OutV} {s : List UInt8} (h : ∀ (i : Nat) (y : OutV), l[i]? = some y → y.path.data.toList ≠ s) : outAtN l s = none := by
  rw [outAtN, List.findIdx?_eq_none_iff]
  intro x hx
  obtain ⟨i, hi⟩ := List.mem_iff_getElem?.1 hx
  simpa using h i x hi
theorem outAt_body {l : List OutV} {s : List UInt8} : bodyP l s = match outAtN l s with | some i => (l[i]?).map (·.body.data.toList) | none => none := by
  cases h : outAtN l s with
  | none =>
    rw [outAtN, List.findIdx?_eq_none_iff] at h
    rw [bodyP, List.find?_eq_none.2 (fun x hx => by simpa using h x hx)]; rfl
  | some i =>
    rw [outAtN, List.findIdx?_eq_some_iff_getElem] at h
    obtain ⟨h1, h2, h3⟩ := h
    rw [bodyP]
    simp only [List.getElem?_eq_getElem h1]
    have : l.find? (fun o => o.path.data.toList == s) = some l[i] := by
      rw [List.find?_eq_some_iff_getElem]
      exact ⟨h2, i, h1, rfl, fun j hj => by simpa using h3 j hj⟩
    rw [this]

theorem str_ne {a b : ByteArray} (h : a ≠ b) : (a.toList == b.toList) = false := by
  rw [Go.ByteArray.toList_eq, Go.ByteArray.toList_eq, beq_eq_false_iff_ne]
  exact fun he => h (Go.WideShapes.bytes_inj he)
theorem str_ne2 {a b : ByteArray} (h : a ≠ b) : (a.toList != b.toList) = true := by
  rw [bne, str_ne h]; rfl

theorem ret_sb {a b : ByteArray} {x y : Bool} (h : a = b) (k : x = y) : Ending.returned (.tuple #[.string a, .bool x]) = .returned (.tuple #[.string b, .bool y]) := by rw [h, k]
def BodiesPost (l : List OutV) (w : World) (e : Ending) (w' : World) : Prop := ∃ bm : Nat, e = .returned (.map (some bm)) ∧ SMap Tryz.prog 9 9 w' bm l.length (mapF l) ∧ w.heap.size ≤ bm ∧ Below w.heap.size w w'
end Go.Proofs.YtmcelgokchhpfaaGreatDoor
