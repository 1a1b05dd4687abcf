/-
  The words of a string, plainly.
-/
import Derived.Test.YtmcelgokchhpfaaGreatDoorLower
import Derived.Test.YtmcelgokchhpfaaGreatDoorLetters
namespace Go.Proofs.YtmcelgokchhpfaaGreatDoor

/-- a byte of a word -/
def wordB (c : UInt8) : Bool := isLetterP (c.toNat : Int) || isDigitP (c.toNat : Int) || decide (128 ≤ (c.toNat : Int))
/-- a word is taken where it is not too long -/
def flush (cur : List UInt8) : List (List UInt8) := if cur ≠ [] ∧ cur.length ≤ 30 then [cur] else []
/-- the words of what is left, behind a word that has begun -/
def wordsAux : List UInt8 → List UInt8 → List (List UInt8)
  | [], cur => flush cur
  | c :: r, cur => if wordB c then wordsAux r (cur ++ [lowerB c]) else flush cur ++ wordsAux r []

theorem words_at {l : List UInt8} {k : Nat} {c : UInt8} (h : l[k]? = some c) (cur : List UInt8) :
    wordsAux (l.drop k) cur = if wordB c then wordsAux (l.drop (k + 1)) (cur ++ [lowerB c]) else flush cur ++ wordsAux (l.drop (k + 1)) [] := by
  obtain ⟨hk, rfl⟩ := List.getElem?_eq_some_iff.1 h
  rw [List.drop_eq_getElem_cons hk, wordsAux]

theorem flush_len (cur : List UInt8) : (flush cur).length ≤ 1 := by unfold flush; split <;> simp
theorem flush_nil : flush [] = [] := by simp [flush]

/-- what is still to come at place i, a word having begun -/
def wordsRest (l : List UInt8) (i : Nat) (cur : List UInt8) : List (List UInt8) := if i ≤ l.length then wordsAux (l.drop i) cur else []

theorem rest_zero (l : List UInt8) : wordsRest l 0 [] = wordsAux l [] := by simp [wordsRest]
theorem rest_in {l : List UInt8} {i : Nat} {c : UInt8} (h : l[i]? = some c) (hw : wordB c = true) (cur : List UInt8) : wordsRest l i cur = wordsRest l (i + 1) (cur ++ [lowerB c]) := by
  have hi := (List.getElem?_eq_some_iff.1 h).1
  rw [wordsRest, if_pos (by omega), wordsRest, if_pos (by omega), words_at h, if_pos hw]
theorem rest_out {l : List UInt8} {i : Nat} {c : UInt8} (h : l[i]? = some c) (hw : wordB c = false) (cur : List UInt8) : wordsRest l i cur = flush cur ++ wordsRest l (i + 1) [] := by
  have hi := (List.getElem?_eq_some_iff.1 h).1
  rw [wordsRest, if_pos (by omega), wordsRest, if_pos (by omega), words_at h, if_neg (by simp [hw])]
theorem rest_end {l : List UInt8} (cur : List UInt8) : wordsRest l l.length cur = flush cur ++ wordsRest l (l.length + 1) [] := by
  rw [wordsRest, if_pos (Nat.le_refl _), wordsRest, if_neg (by omega), List.drop_length, wordsAux, List.append_nil]

/-- a run of word bytes is one word -/
theorem words_run (l : List UInt8) (i : Nat) : ∀ (n : Nat) (cur : List UInt8), i + n ≤ l.length → (∀ j c, i ≤ j → j < i + n → l[j]? = some c → wordB c = true) →
    wordsAux (l.drop i) cur = wordsAux (l.drop (i + n)) (cur ++ lowerL ((l.drop i).take n)) := by
  intro n
  induction n generalizing i with
  | zero => intro cur _ _; simp [lowerL]
  | succ n ih =>
    intro cur hn hall
    have hi : i < l.length := by omega
    have hc : l[i]? = some l[i] := List.getElem?_eq_getElem hi
    rw [words_at hc, if_pos (hall i _ (Nat.le_refl _) (by omega) hc), ih (i + 1) _ (by omega) (fun j c h1 h2 h3 => hall j c (by omega) (by omega) h3)]
    rw [List.drop_eq_getElem_cons hi, List.take_succ_cons]
    simp only [lowerL, List.map_cons, List.append_assoc, List.singleton_append]
    rw [show i + (n + 1) = i + 1 + n from by omega]

/-- behind a run: what is left begins with no word byte -/
theorem words_stop {l : List UInt8} {k : Nat} (h : ∀ c, l[k]? = some c → wordB c = false) (cur : List UInt8) : wordsAux (l.drop k) cur = flush cur ++ wordsAux (l.drop k) [] := by
  by_cases hk : k < l.length
  · have hc : l[k]? = some l[k] := List.getElem?_eq_getElem hk
    rw [words_at hc, words_at hc, if_neg (by simp [h _ hc]), if_neg (by simp [h _ hc]), flush_nil]
    rfl
  · rw [List.drop_of_length_le (by omega), wordsAux, wordsAux, flush_nil, List.append_nil]

end Go.Proofs.YtmcelgokchhpfaaGreatDoor
