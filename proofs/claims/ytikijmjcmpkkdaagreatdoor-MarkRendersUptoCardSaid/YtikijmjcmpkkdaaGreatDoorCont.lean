/-
  The ids and the contents of a document: mark.Ids, mark.Contents; rows that are compared.
-/
import Derived.Test.YtikijmjcmpkkdaaGreatDoorEnts
import Derived.Test.YtikijmjcmpkkdaaGreatDoorRegInv
import Derived.Test.YtikijmjcmpkkdaaGreatDoorEqualStrs
namespace Go.Proofs.YtikijmjcmpkkdaaGreatDoor
open Go.RowKit Go.Deep

/-- Ids' two results -/
def IdsPost (l : List Node) (w : World) (e : Ending) (w' : World) : Prop :=
  Below w.heap.size w w' ∧ ((docErr l ≠ 0 ∧ e = .returned (.tuple #[.slice none 0 0, .int .i64 (docErr l)])) ∨
    (docErr l = 0 ∧ ∃ (A : Option Addr) (n c : Nat), e = .returned (.tuple #[.slice A n c, .int .i64 0]) ∧ (idsL (headsL l)).length = n ∧ w'.ownsRow w.heap.size 9 1 (.slice A n c) n (strCells (idsL (headsL l)))))
/-- Contents' two results -/
def ConPost (l : List Node) (w : World) (e : Ending) (w' : World) : Prop :=
  Below w.heap.size w w' ∧ ((docErr l ≠ 0 ∧ e = .returned (.tuple #[.slice none 0 0, .int .i64 (docErr l)])) ∨
    (docErr l = 0 ∧ ∃ (A : Option Addr) (n c : Nat), e = .returned (.tuple #[.slice A n c, .int .i64 0]) ∧ (headsL l).length = n ∧ w'.ownsRow w.heap.size 43 3 (.slice A n c) n (entsC (entK (headsL l) n))))
theorem entK_succ2 {hs : List Node} {k : Nat} {x : Node} {id : ByteArray} (h : hs[k]? = some x) (hi : (idsL hs)[k]? = some id.data.toList) : entK hs (k + 1) = entK hs k ++ [⟨x.level, id, lineS x⟩] := by
  rw [entK_succ h]
  have hk := (List.getElem?_eq_some_iff.1 h).1
  rw [idsL_pre (k := k + 1) (Nat.lt_succ_self k) hk, idsL_take h, List.getElem?_append_right (by rw [idsL_len, List.length_take]; omega)] at hi
  have : k - (idsL (hs.take k)).length = 0 := by rw [idsL_len, List.length_take]; omega
  rw [this] at hi
  have hi2 := Option.some.inj hi
  unfold entOf
  rw [hi2]
def RE (lv : Int) (a b : ByteArray) (W1 : World) (x : Value) (w : World) : Prop := ∃ g : Nat, x = .slice (some ⟨g, 0, none⟩) 1 1 ∧ W1.heap.size ≤ g ∧ CB w g 43 #[.int .i64 lv, .string a, .string b]
theorem RE.below {lv : Int} {a b : ByteArray} {W1 w w' : World} {x : Value} (h : RE lv a b W1 x w) (hb : Below w.heap.size w w') : RE lv a b W1 x w' := by obtain ⟨g, h1, h2, h3⟩ := h; exact ⟨g, h1, h2, h3.below hb⟩
theorem RE.cells {g : Nat} {lv : Int} {a b : ByteArray} {w : World} (h : CB w g 43 #[.int .i64 lv, .string a, .string b]) : ∀ (j : Nat) (u : Value), [Value.int .i64 lv, Value.string a, Value.string b][j]? = some u → w.cell? ⟨g, j, none⟩ = some u := by
  intro j u hu
  rw [h.c j]
  simpa using hu
def InvCo (fr : Value → Value → Value → Value → Value → Value → Value → Value → Value → Value → Value → Act) (A A3 : Option Addr) (k c nb gi nn ci c3 : Nat) (x : Node) (ids : ByteArray) (W1 : World) (L : Array Bool) (a : Act) (w : World) : Prop :=
  ∃ x0 x1 x2 x3 x4 x5 x6 x7 x8 x9 x10 : Value, a = fr x0 x1 x2 x3 x4 x5 x6 x7 x8 x9 x10 ∧ Below W1.heap.size W1 w ∧ (L.getD 0 false = true → x0 = .slice A k c) ∧ (L.getD 1 false = true → x1 = .pointer (some ⟨nb, 1, none⟩)) ∧ (L.getD 2 false = true → x2 = .int .i64 x.level) ∧ (L.getD 3 false = true → x3 = .slice (some ⟨gi, 0, none⟩) nn ci) ∧ (L.getD 4 false = true → x4 = .int .i64 k) ∧ (L.getD 5 false = true → x5 = .pointer (some ⟨gi, k, none⟩)) ∧ (L.getD 6 false = true → x6 = .string ids) ∧ (L.getD 7 false = true → x7 = .agg #[.int .i64 x.kind, .int .i64 x.level, .string x.text, .string x.dest, .string x.title, .slice A3 x.kids.length c3]) ∧ (L.getD 8 false = true → x8 = .string (lineS x)) ∧ (L.getD 9 false = true → x9 = .agg #[.int .i64 x.level, .string ids, .string (lineS x)]) ∧ (L.getD 10 false = true → RE (x.level) ids (lineS x) W1 x10 w)
theorem InvCo.start {m : Nat} {fr : Value → Value → Value → Value → Value → Value → Value → Value → Value → Value → Value → Act} {A A3 : Option Addr} {k c nb gi nn ci c3 : Nat} {x : Node} {ids : ByteArray} {W1 : World} {a : Act} (x0 x1 x2 x3 x4 x5 x6 x7 x8 x9 x10 : Value) (h : a = fr x0 x1 x2 x3 x4 x5 x6 x7 x8 x9 x10) : InvCo fr A A3 k c nb gi nn ci c3 x ids W1 (Array.replicate m false) a W1 :=
  ⟨x0, x1, x2, x3, x4, x5, x6, x7, x8, x9, x10, h, Below.refl _ _, (fun h => by rw [getD_replicate_false] at h; cases h), (fun h => by rw [getD_replicate_false] at h; cases h), (fun h => by rw [getD_replicate_false] at h; cases h), (fun h => by rw [getD_replicate_false] at h; cases h), (fun h => by rw [getD_replicate_false] at h; cases h), (fun h => by rw [getD_replicate_false] at h; cases h), (fun h => by rw [getD_replicate_false] at h; cases h), (fun h => by rw [getD_replicate_false] at h; cases h), (fun h => by rw [getD_replicate_false] at h; cases h), (fun h => by rw [getD_replicate_false] at h; cases h), (fun h => by rw [getD_replicate_false] at h; cases h)⟩
end Go.Proofs.YtikijmjcmpkkdaaGreatDoor
