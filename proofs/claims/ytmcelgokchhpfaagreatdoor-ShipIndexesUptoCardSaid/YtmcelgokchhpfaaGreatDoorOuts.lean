/-
  The error of outputs: ship.CheckOuts and mastref1.OutsError.
-/
import Derived.Test.YtmcelgokchhpfaaGreatDoorAddresses
import Derived.BigQuiet
import Derived.Deep.QuietTactic
import Derived.RegionTactic
namespace Go.Proofs.YtmcelgokchhpfaaGreatDoor
open Go.RowKit Go.ChangeShapes Go.WideShapes Go.Deep

structure OutV where
  path : ByteArray
  body : ByteArray

structure OutCells (w : World) (b o : Nat) (n : OutV) : Prop where
  c0 : w.cell? ⟨b, o, none⟩ = some (.string n.path)
  c1 : w.cell? ⟨b, o + 1, none⟩ = some (.string n.body)

theorem OutCells.keep {w w' : World} {b o : Nat} {n : OutV} (h : OutCells w b o n) (k : Keeps w w') : OutCells w' b o n := ⟨k _ _ h.c0, k _ _ h.c1⟩

def OutsAt (w : World) (v : Value) (l : List OutV) : Prop :=
  ∃ (A : Option Addr) (c b o : Nat), v = .slice A l.length c ∧ l.length ≤ c ∧ c ≤ maxLen ∧ (l ≠ [] → A = some ⟨b, o, none⟩) ∧ ∀ i n, l[i]? = some n → OutCells w b (o + i * 2) n

theorem OutsAt.keep {w w' : World} {v : Value} {l : List OutV} (h : OutsAt w v l) (k : Keeps w w') : OutsAt w' v l := by
  obtain ⟨A, c, b, o, h1, h2, h3, h4, h5⟩ := h
  exact ⟨A, c, b, o, h1, h2, h3, h4, fun i n hn => (h5 i n hn).keep k⟩

section
variable {H : Type} {enc : TypeId × Value → H} {w : World} {base : Nat} {spare : Nat → Bool} {held : Bool}
end

/-- does a path come after another -/
def leB (x y : ByteArray) : Bool := Op.bytesLess x.toList y.toList || (x.toList == y.toList)
def under (x y : OutV) : Bool := Lib.hasPrefix y.path.data.toList (x.path ++ ⟨#[47]⟩).data.toList
def prevBad (l : List OutV) (x : ByteArray) : Nat → Bool
  | 0 => false
  | j + 1 => match l[j]? with | none => false | some p => leB x p.path
theorem prevBad_succ {l : List OutV} {x : ByteArray} {j : Nat} {p : OutV} (h : l[j]? = some p) : prevBad l x (j + 1) = leB x p.path := by simp [prevBad, h]
/-- the error of the output at place k, if those ahead have none; the rest -/
def outsFrom (l : List OutV) : Nat → Nat → Int
  | 0, _ => 0
  | f + 1, k =>
    match l[k]? with
    | none => 0
    | some x =>
      if pathB x.path = false then 3
      else if prevBad l x.path k = true then 5
      else if (l.drop (k + 1)).any (under x) = true then 6
      else if 200000 < x.body.size then 4
      else outsFrom l f (k + 1)
def outsE (l : List OutV) : Int := if 480 < l.length then 4 else outsFrom l l.length 0

theorem outs_at {l : List OutV} {k : Nat} {x : OutV} (h : l[k]? = some x) : outsFrom l (l.length - k) k =
    (if pathB x.path = false then 3
      else if prevBad l x.path k = true then 5
      else if (l.drop (k + 1)).any (under x) = true then 6
      else if 200000 < x.body.size then 4
      else outsFrom l (l.length - (k + 1)) (k + 1)) := by
  have hk := (List.getElem?_eq_some_iff.1 h).1
  rw [show l.length - k = (l.length - (k + 1)) + 1 by omega, outsFrom, h]

theorem any_yes {l : List OutV} {f : OutV → Bool} {m j : Nat} {y : OutV} (h : l[m + j]? = some y) (hf : f y = true) : (l.drop m).any f = true := by
  rw [List.any_eq_true]
  exact ⟨y, List.mem_of_getElem? (i := j) (by rw [List.getElem?_drop]; exact h), hf⟩
theorem any_no {l : List OutV} {f : OutV → Bool} {m : Nat} (h : ∀ (j : Nat) (y : OutV), l[m + j]? = some y → f y = false) : (l.drop m).any f = false := by
  rw [List.any_eq_false]
  intro y hy
  obtain ⟨j, hj⟩ := List.mem_iff_getElem?.1 hy
  rw [List.getElem?_drop] at hj
  simp [h j y hj]

end Go.Proofs.YtmcelgokchhpfaaGreatDoor
