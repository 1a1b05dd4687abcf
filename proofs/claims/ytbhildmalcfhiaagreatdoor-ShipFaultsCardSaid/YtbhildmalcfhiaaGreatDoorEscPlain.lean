/-
  The signs of HTML written as names, plainly; a byteStringReplacer as it lies in memory.
-/
import Derived.Test.YtbhildmalcfhiaaGreatDoorBytes
import Derived.Test.YtbhildmalcfhiaaGreatDoorOwn
import Derived.Lib.Bytealg
namespace Go.Proofs.YtbhildmalcfhiaaGreatDoor
open Go.RowKit Go.Deep

def escF (c : UInt8) : Option (List UInt8) := if c = 38 then some [38, 97, 109, 112, 59] else if c = 60 then some [38, 108, 116, 59] else if c = 62 then some [38, 103, 116, 59] else if c = 34 then some [38, 113, 117, 111, 116, 59] else none
def escB (c : UInt8) : List UInt8 := (escF c).getD [c]
def escL (l : List UInt8) : List UInt8 := l.flatMap escB
/-- by how much a byte grows -/
def escG (c : UInt8) : Nat := (escB c).length - 1
def gainL (l : List UInt8) : Nat := (l.map escG).sum
def anyL (l : List UInt8) : Bool := l.any fun c => (escF c).isSome
def trB : List UInt8 := [34, 62, 60, 38]

theorem escB_pos (c : UInt8) : 1 ≤ (escB c).length := by
  unfold escB escF
  split
  · simp
  split
  · simp
  split
  · simp
  split <;> simp
theorem escB_le (c : UInt8) : (escB c).length ≤ 6 := by
  unfold escB escF
  split
  · simp
  split
  · simp
  split
  · simp
  split <;> simp
theorem escG_add (c : UInt8) : (escB c).length = 1 + escG c := by have := escB_pos c; unfold escG; omega
theorem escB_none {c : UInt8} (h : escF c = none) : escB c = [c] := by rw [escB, h]; rfl
theorem escB_some {c : UInt8} {l : List UInt8} (h : escF c = some l) : escB c = l := by rw [escB, h]; rfl
theorem escL_len (l : List UInt8) : (escL l).length = l.length + gainL l := by
  induction l with
  | nil => rfl
  | cons c r ih =>
    have e1 : escL (c :: r) = escB c ++ escL r := by simp [escL]
    have e2 : gainL (c :: r) = escG c + gainL r := by simp [gainL]
    rw [e1, e2, List.length_append, ih, escG_add, List.length_cons]
    omega
theorem take_next {l : List UInt8} {k : Nat} {c : UInt8} (h : l[k]? = some c) : l.take (k + 1) = l.take k ++ [c] := by
  obtain ⟨hk, rfl⟩ := List.getElem?_eq_some_iff.1 h
  exact List.take_succ_eq_append_getElem hk
theorem escL_take {l : List UInt8} {k : Nat} {c : UInt8} (h : l[k]? = some c) : escL (l.take (k + 1)) = escL (l.take k) ++ escB c := by
  rw [take_next h]; simp [escL]
theorem gainL_take {l : List UInt8} {k : Nat} {c : UInt8} (h : l[k]? = some c) : gainL (l.take (k + 1)) = gainL (l.take k) + escG c := by
  rw [take_next h]; simp [gainL]
theorem anyL_take {l : List UInt8} {k : Nat} {c : UInt8} (h : l[k]? = some c) : anyL (l.take (k + 1)) = (anyL (l.take k) || (escF c).isSome) := by
  rw [take_next h]; simp [anyL]
theorem gainL_le (l : List UInt8) : gainL l ≤ 5 * l.length := by
  induction l with
  | nil => simp [gainL]
  | cons c r ih =>
    have e2 : gainL (c :: r) = escG c + gainL r := by simp [gainL]
    have := escB_le c
    have := escG_add c
    rw [e2, List.length_cons]
    omega
theorem gainL_app (a b : List UInt8) : gainL (a ++ b) = gainL a + gainL b := by simp [gainL]
theorem escL_app (a b : List UInt8) : escL (a ++ b) = escL a ++ escL b := by simp [escL]
theorem gain_take_le (l : List UInt8) (k : Nat) : gainL (l.take k) ≤ gainL l := by
  have h := gainL_app (l.take k) (l.drop k)
  rw [List.take_append_drop] at h
  omega
theorem escL_take_le (l : List UInt8) (k : Nat) : (escL (l.take k)).length ≤ (escL l).length := by
  have h := congrArg List.length (escL_app (l.take k) (l.drop k))
  rw [List.take_append_drop, List.length_append] at h
  omega
theorem escL_same {l : List UInt8} (h : anyL l = false) : escL l = l := by
  induction l with
  | nil => rfl
  | cons c r ih =>
    have e : anyL (c :: r) = ((escF c).isSome || anyL r) := by simp [anyL]
    rw [e, Bool.or_eq_false_iff] at h
    have e1 : escL (c :: r) = escB c ++ escL r := by simp [escL]
    rw [e1, ih h.2, escB_none (by simpa using h.1)]
    rfl
/-- by the counts: what the first k signs of the replacer add -/
def gainK (l : List UInt8) (k : Nat) : Nat := ((trB.take k).map fun x => l.count x * escG x).sum
def anyK (l : List UInt8) (k : Nat) : Bool := (trB.take k).any fun x => decide (l.count x ≠ 0)
theorem gainK_all (l : List UInt8) : gainK l 4 = gainL l := by
  induction l with
  | nil => rfl
  | cons c r ih =>
    have e2 : gainL (c :: r) = escG c + gainL r := by simp [gainL]
    rw [e2, ← ih]
    have g1 : escG 34 = 5 := by decide
    have g2 : escG 62 = 3 := by decide
    have g3 : escG 60 = 3 := by decide
    have g4 : escG 38 = 4 := by decide
    simp only [gainK, trB, List.take_succ_cons, List.take_zero, List.map_cons, List.map_nil, List.sum_cons, List.sum_nil, List.count_cons, g1, g2, g3, g4]
    by_cases h1 : c = 34
    · subst h1; rw [g1]; simp; omega
    by_cases h2 : c = 62
    · subst h2; rw [g2]; simp; omega
    by_cases h3 : c = 60
    · subst h3; rw [g3]; simp; omega
    by_cases h4 : c = 38
    · subst h4; rw [g4]; simp; omega
    have g0 : escG c = 0 := by unfold escG escB escF; simp [h1, h2, h3, h4]
    rw [g0]
    simp [h1, h2, h3, h4]
theorem anyK_all (l : List UInt8) : anyK l 4 = anyL l := by
  rw [Bool.eq_iff_iff]
  simp only [anyK, trB, List.take_succ_cons, List.take_zero, List.any_cons, List.any_nil, Bool.or_false, Bool.or_eq_true, decide_eq_true_eq, anyL, List.any_eq_true, ne_eq, List.count_eq_zero, Decidable.not_not]
  constructor
  · rintro (h | h | h | h)
    · exact ⟨34, h, by decide⟩
    · exact ⟨62, h, by decide⟩
    · exact ⟨60, h, by decide⟩
    · exact ⟨38, h, by decide⟩
  · rintro ⟨c, hc, he⟩
    unfold escF at he
    split at he
    · next h => subst h; exact Or.inr (Or.inr (Or.inr hc))
    split at he
    · next h => subst h; exact Or.inr (Or.inr (Or.inl hc))
    split at he
    · next h => subst h; exact Or.inr (Or.inl hc)
    split at he
    · next h => subst h; exact Or.inl hc
    · cases he

/-- the replacer in block b -/
structure ReplAt (w : World) (b : Nat) : Prop where
  no : ∀ c : UInt8, escF c = none → w.cell? ⟨b, c.toNat, none⟩ = some (.slice none 0 0)
  yes : ∀ (c : UInt8) (l : List UInt8), escF c = some l → ∃ g cap, w.cell? ⟨b, c.toNat, none⟩ = some (.slice (some ⟨g, 0, none⟩) l.length cap) ∧ l.length ≤ cap ∧ cap ≤ 9223372036854775807 ∧ ∀ (j : Nat) (x : UInt8), l[j]? = some x → w.cell? ⟨g, j, none⟩ = some (.int .u8 x.toNat)
  tr : ∃ g cap, w.cell? ⟨b, 256, none⟩ = some (.slice (some ⟨g, 0, none⟩) 4 cap) ∧ 4 ≤ cap ∧ cap ≤ 9223372036854775807 ∧ ∀ (j : Nat) (x : UInt8), trB[j]? = some x → w.cell? ⟨g, j, none⟩ = some (.string ⟨#[x]⟩)
  sh : w.shape? b = some (269, 257)
theorem ReplAt.below {w w' : World} {b : Nat} (h : ReplAt w b) (hb : Below w.heap.size w w') : ReplAt w' b := by
  have k := Keeps.of_below hb
  refine ⟨fun c hc => k _ _ (h.no c hc), fun c l hc => ?_, ?_, ?_⟩
  · obtain ⟨g, cap, h1, h2, h3, h4⟩ := h.yes c l hc
    exact ⟨g, cap, k _ _ h1, h2, h3, fun j x hj => k _ _ (h4 j x hj)⟩
  · obtain ⟨g, cap, h1, h2, h3, h4⟩ := h.tr
    exact ⟨g, cap, k _ _ h1, h2, h3, fun j x hj => k _ _ (h4 j x hj)⟩
  · have hs := h.sh
    have hlt : b < w.heap.size := by
      have := h.no 0 (by decide)
      exact World.block_lt_of_cell? _ _ this
    unfold World.shape? at hs ⊢
    rw [hb.block b hlt]
    exact hs

end Go.Proofs.YtbhildmalcfhiaaGreatDoor
