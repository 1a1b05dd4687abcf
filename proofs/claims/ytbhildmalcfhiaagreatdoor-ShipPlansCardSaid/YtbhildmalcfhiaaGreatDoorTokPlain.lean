/-
  Tokens of HTML, plainly.
-/
import Derived.Test.YtbhildmalcfhiaaGreatDoorLower
import Derived.Test.YtbhildmalcfhiaaGreatDoorLetters
import Derived.Test.YtbhildmalcfhiaaGreatDoorUnPlain
import Derived.Lib.IndexMore
namespace Go.Proofs.YtbhildmalcfhiaaGreatDoor
open Go.RowKit Go.Deep

/-- the byte at a place -/
def bAt (s : ByteArray) (j : Nat) : UInt8 := s.data.toList.getD j 0
theorem bAt_get {s : ByteArray} {j : Nat} (h : j < s.size) : s.data.toList[j]? = some (bAt s j) := by
  have h1 : j < s.data.toList.length := by rw [size_toList]; exact h
  rw [bAt, List.getD_eq_getElem?_getD, List.getElem?_eq_getElem h1]; rfl
theorem bAt_idx {s : ByteArray} {j : Nat} (h : j < s.size) : s[j] = bAt s j := by
  have h1 := bAt_get h
  obtain ⟨h2, h3⟩ := List.getElem?_eq_some_iff.1 h1
  rw [← h3]; rfl
/-- the byte as a number -/
def nAt (s : ByteArray) (j : Nat) : Int := ((bAt s j).toNat : Int)
def tagN (n : Int) : Bool := isLetterP n || isDigitP n || (n == 45)
def attN (n : Int) : Bool := tagN n || (n == 95) || (n == 58) || (n == 46)
def gapN (n : Int) : Bool := (n == 32) || (n == 9) || (n == 10)
def begN (n : Int) : Bool := isLetterP n || (n == 95) || (n == 58)
def valN (n : Int) : Bool := !gapN n && !(n == 62)
theorem beg_att {n : Int} (h : begN n = true) : attN n = true := by
  simp only [begN, attN, tagN, Bool.or_eq_true] at h ⊢
  rcases h with (h | h) | h
  · exact Or.inl (Or.inl (Or.inl (Or.inl (Or.inl h))))
  · exact Or.inl (Or.inl (Or.inr h))
  · exact Or.inl (Or.inr h)

/-- the first place from i on at which p holds, before n; else n -/
def seek (p : Nat → Bool) : Nat → Nat → Nat
  | 0, i => i
  | f + 1, i => if p i then i else seek p f (i + 1)
def seekTo (p : Nat → Bool) (n i : Nat) : Nat := seek p (n - i) i
theorem seek_hit {p : Nat → Bool} {n i : Nat} (h : i < n) (hp : p i = true) : seekTo p n i = i := by
  rw [seekTo, show n - i = (n - i - 1) + 1 by omega, seek, if_pos hp]
theorem seek_miss {p : Nat → Bool} {n i : Nat} (h : i < n) (hp : p i = false) : seekTo p n i = seekTo p n (i + 1) := by
  rw [seekTo, show n - i = (n - (i + 1)) + 1 by omega, seek, if_neg (by simp [hp]), seekTo]
theorem seek_end {p : Nat → Bool} {n i : Nat} (h : n ≤ i) : seekTo p n i = i := by
  rw [seekTo, show n - i = 0 by omega, seek]
theorem seek_le (p : Nat → Bool) : ∀ (f i : Nat), i ≤ seek p f i ∧ seek p f i ≤ i + f
  | 0, i => ⟨Nat.le_refl _, Nat.le_refl _⟩
  | f + 1, i => by
    rw [seek]
    split
    · exact ⟨Nat.le_refl _, by omega⟩
    · have := seek_le p f (i + 1); omega
theorem seekTo_le {p : Nat → Bool} {n i : Nat} (h : i ≤ n) : i ≤ seekTo p n i ∧ seekTo p n i ≤ n := by
  have := seek_le p (n - i) i
  unfold seekTo
  omega

/-- bytes are skipped -/
def skipTo (p : Int → Bool) (s : ByteArray) (i : Nat) : Nat := seekTo (fun j => !p (nAt s j)) s.size i
theorem skip_in {p : Int → Bool} {s : ByteArray} {i : Nat} (h : i < s.size) (hp : p (nAt s i) = true) : skipTo p s i = skipTo p s (i + 1) := seek_miss h (by simp [hp])
theorem skip_out {p : Int → Bool} {s : ByteArray} {i : Nat} (h : i < s.size) (hp : p (nAt s i) = false) : skipTo p s i = i := seek_hit h (by simp [hp])
theorem skip_end {p : Int → Bool} {s : ByteArray} {i : Nat} (h : s.size ≤ i) : skipTo p s i = i := seek_end h
theorem skip_le {p : Int → Bool} {s : ByteArray} {i : Nat} (h : i ≤ s.size) : i ≤ skipTo p s i ∧ skipTo p s i ≤ s.size := seekTo_le h

/-- where a sign is found from i on, and where one goes on behind it -/
def upI (s : ByteArray) (i : Nat) (t : List UInt8) : Int := Lib.index (s.extract i s.size).data.toList t
def upE (s : ByteArray) (i : Nat) (t : List UInt8) : Nat := if upI s i t < 0 then s.size else i + (upI s i t).toNat
def upN (s : ByteArray) (i : Nat) (t : List UInt8) : Nat := if upI s i t < 0 then s.size else i + (upI s i t).toNat + t.length
theorem up_none {s : ByteArray} {i : Nat} {t : List UInt8} (h : upI s i t < 0) : upE s i t = s.size ∧ upN s i t = s.size := by simp [upE, upN, h]
theorem up_some {s : ByteArray} {i k : Nat} {t : List UInt8} (h : upI s i t = (k : Int)) : upE s i t = i + k ∧ upN s i t = i + k + t.length := by
  have h0 : ¬ upI s i t < 0 := by omega
  rw [upE, upN, if_neg h0, if_neg h0, h]
  exact ⟨rfl, rfl⟩
theorem ext_size (s : ByteArray) {a b : Nat} (hb : b ≤ s.size) : (s.extract a b).size = b - a := by
  rw [ByteArray.size_extract]; omega
theorem up_room {s : ByteArray} {i k : Nat} {t : List UInt8} (hi : i ≤ s.size) (h : upI s i t = (k : Int)) : i + k + t.length ≤ s.size := by
  have h1 := Lib.index_room (s.extract i s.size).data.toList t (by unfold upI at h; omega)
  rw [show Lib.index (s.extract i s.size).data.toList t = (k : Int) from h, size_toList, ext_size s (Nat.le_refl _)] at h1
  omega
theorem up_cases (s : ByteArray) (i : Nat) (t : List UInt8) (hi : i ≤ s.size) : (upI s i t = -1 ∧ upE s i t = s.size ∧ upN s i t = s.size) ∨ ∃ k : Nat, upI s i t = (k : Int) ∧ upE s i t = i + k ∧ upN s i t = i + k + t.length ∧ i + k + t.length ≤ s.size := by
  have h1 := Lib.index_ge (s.extract i s.size).data.toList t
  rw [show Lib.index (s.extract i s.size).data.toList t = upI s i t from rfl] at h1
  by_cases h : upI s i t < 0
  · exact Or.inl ⟨by omega, up_none h⟩
  · refine Or.inr ⟨(upI s i t).toNat, by omega, ?_⟩
    have h2 : upI s i t = (((upI s i t).toNat : Nat) : Int) := by omega
    exact ⟨(up_some h2).1, (up_some h2).2, up_room hi h2⟩
theorem upE_le {s : ByteArray} {i : Nat} {t : List UInt8} (hi : i ≤ s.size) : i ≤ upE s i t ∧ upE s i t ≤ upN s i t ∧ upN s i t ≤ s.size := by
  rcases up_cases s i t hi with ⟨_, h2, h3⟩ | ⟨k, _, h2, h3, h4⟩ <;> omega

def lowBA (s : ByteArray) : ByteArray := ⟨(lowerL s.data.toList).toArray⟩
def unBA (s : ByteArray) : ByteArray := ⟨(unU s.data.toList).toArray⟩
theorem lowBA_size (s : ByteArray) : (lowBA s).size = s.size := by
  show (lowerL s.data.toList).toArray.size = s.size
  rw [List.size_toArray, lowerL, List.length_map, size_toList]

structure AttrR where
  name : ByteArray
  value : ByteArray
/-- the value behind a name that ends at k, and where one goes on -/
def attVal (s : ByteArray) (k : Nat) : ByteArray × Nat :=
  if k < s.size ∧ nAt s k = 61 then
    if k + 1 < s.size ∧ nAt s (k + 1) = 34 then (unBA (s.extract (k + 2) (upE s (k + 2) [34])), upN s (k + 2) [34])
    else (unBA (s.extract (k + 1) (skipTo valN s (k + 1))), skipTo valN s (k + 1))
  else (⟨#[]⟩, k)
theorem attVal_none {s : ByteArray} {k : Nat} (h : ¬ (k < s.size ∧ nAt s k = 61)) : attVal s k = (⟨#[]⟩, k) := by rw [attVal, if_neg h]
theorem attVal_q {s : ByteArray} {k : Nat} (h : k < s.size) (h1 : nAt s k = 61) (h2 : k + 1 < s.size) (h3 : nAt s (k + 1) = 34) : attVal s k = (unBA (s.extract (k + 2) (upE s (k + 2) [34])), upN s (k + 2) [34]) := by
  rw [attVal, if_pos ⟨h, h1⟩, if_pos ⟨h2, h3⟩]
theorem attVal_u {s : ByteArray} {k : Nat} (h : k < s.size) (h1 : nAt s k = 61) (h2 : ¬ (k + 1 < s.size ∧ nAt s (k + 1) = 34)) : attVal s k = (unBA (s.extract (k + 1) (skipTo valN s (k + 1))), skipTo valN s (k + 1)) := by
  rw [attVal, if_pos ⟨h, h1⟩, if_neg h2]
theorem attVal_le {s : ByteArray} {k : Nat} (h : k ≤ s.size) : k ≤ (attVal s k).2 ∧ (attVal s k).2 ≤ s.size := by
  by_cases h1 : k < s.size ∧ nAt s k = 61
  · by_cases h2 : k + 1 < s.size ∧ nAt s (k + 1) = 34
    · rw [attVal_q h1.1 h1.2 h2.1 h2.2]
      have := upE_le (s := s) (i := k + 2) (t := [34]) (by omega)
      simp only; omega
    · rw [attVal_u h1.1 h1.2 h2]
      have := skip_le (p := valN) (s := s) (i := k + 1) (by omega)
      simp only; omega
  · rw [attVal_none h1]; exact ⟨Nat.le_refl _, h⟩
/-- the attribute that begins at i, and where one goes on -/
def attAt (s : ByteArray) (i : Nat) : AttrR := ⟨lowBA (s.extract i (skipTo attN s i)), (attVal s (skipTo attN s i)).1⟩
def attEnd (s : ByteArray) (i : Nat) : Nat := (attVal s (skipTo attN s i)).2
theorem skip_beg {s : ByteArray} {i : Nat} (h : i < s.size) (hb : begN (nAt s i) = true) : i + 1 ≤ skipTo attN s i ∧ skipTo attN s i ≤ s.size := by
  rw [skip_in h (beg_att hb)]
  have := skip_le (p := attN) (s := s) (i := i + 1) (by omega)
  omega
theorem attEnd_le {s : ByteArray} {i : Nat} (h : i < s.size) (hb : begN (nAt s i) = true) : i + 1 ≤ attEnd s i ∧ attEnd s i ≤ s.size := by
  have h1 := skip_beg h hb
  have h2 := attVal_le (s := s) (k := skipTo attN s i) h1.2
  unfold attEnd
  omega

/-- the attributes from i on, and the place of the sign that ends the tag (or the end) -/
def attsF (s : ByteArray) : Nat → Nat → List AttrR × Nat
  | 0, i => ([], i)
  | f + 1, i => if i < s.size then (if nAt s i = 62 then ([], i) else if begN (nAt s i) then (attAt s i :: (attsF s f (attEnd s i)).1, (attsF s f (attEnd s i)).2) else attsF s f (i + 1)) else ([], i)
def attsV (s : ByteArray) (i : Nat) : List AttrR × Nat := attsF s s.size i
/-- what has been read, and that what is left is to come -/
def AttsRel (s : ByteArray) (i0 : Nat) (D : List AttrR) (i : Nat) : Prop := ∃ f, s.size - i ≤ f ∧ attsV s i0 = (D ++ (attsF s f i).1, (attsF s f i).2)
theorem AttsRel.start (s : ByteArray) (i : Nat) : AttsRel s i [] i := ⟨s.size, by omega, by simp [attsV]⟩
theorem AttsRel.stop {s : ByteArray} {i0 i : Nat} {D : List AttrR} (h : AttsRel s i0 D i) (hi : s.size ≤ i ∨ nAt s i = 62) : attsV s i0 = (D, i) := by
  obtain ⟨f, _, h2⟩ := h
  have h3 : attsF s f i = ([], i) := by
    cases f with
    | zero => rfl
    | succ f =>
      rw [attsF]
      split
      · rw [if_pos (by rcases hi with hi | hi; omega; exact hi)]
      · rfl
  rw [h2, h3]; simp
theorem AttsRel.skip {s : ByteArray} {i0 i : Nat} {D : List AttrR} (h : AttsRel s i0 D i) (hi : i < s.size) (h1 : ¬ nAt s i = 62) (h2 : begN (nAt s i) = false) : AttsRel s i0 D (i + 1) := by
  obtain ⟨f, hf, h3⟩ := h
  obtain ⟨g, rfl⟩ : ∃ g, f = g + 1 := ⟨f - 1, by omega⟩
  refine ⟨g, by omega, ?_⟩
  rw [h3, attsF, if_pos hi, if_neg h1, if_neg (by simp [h2])]
theorem AttsRel.push {s : ByteArray} {i0 i : Nat} {D : List AttrR} (h : AttsRel s i0 D i) (hi : i < s.size) (h1 : ¬ nAt s i = 62) (h2 : begN (nAt s i) = true) : AttsRel s i0 (D ++ [attAt s i]) (attEnd s i) := by
  obtain ⟨f, hf, h3⟩ := h
  obtain ⟨g, rfl⟩ : ∃ g, f = g + 1 := ⟨f - 1, by omega⟩
  have h4 := attEnd_le hi h2
  refine ⟨g, by omega, ?_⟩
  rw [h3, attsF, if_pos hi, if_neg h1, if_pos h2]
  simp
theorem attsF_le (s : ByteArray) : ∀ (f i : Nat), i ≤ s.size → i ≤ (attsF s f i).2 ∧ (attsF s f i).2 ≤ s.size ∧ (attsF s f i).1.length ≤ (attsF s f i).2 - i
  | 0, i, h => by simp [attsF]; omega
  | f + 1, i, h => by
    rw [attsF]
    split
    · rename_i hi
      split
      · simp; omega
      · split
        · rename_i hb
          have h1 := attEnd_le hi hb
          have h2 := attsF_le s f (attEnd s i) h1.2
          simp only [List.length_cons]
          omega
        · have h2 := attsF_le s f (i + 1) (by omega)
          omega
    · simp; omega
theorem attsV_le {s : ByteArray} {i : Nat} (h : i ≤ s.size) : i ≤ (attsV s i).2 ∧ (attsV s i).2 ≤ s.size ∧ (attsV s i).1.length ≤ s.size := by
  have := attsF_le s s.size i h
  unfold attsV
  omega

structure TokR where
  kind : Int
  at_ : Nat
  name : ByteArray
  text : ByteArray
  atts : List AttrR

def letAt (s : ByteArray) (i : Nat) : Bool := decide (i < s.size) && isLetterP (nAt s i)
def isAt (s : ByteArray) (i : Nat) (n : Int) : Bool := decide (i < s.size) && decide (nAt s i = n)
/-- what begins at i: 0: nothing, 1 a comment, 2 a declaration, 3 the end of an element, 4 its beginning -/
def kindAt (s : ByteArray) (i : Nat) : Nat :=
  if isAt s i 60 then
    if isAt s (i + 1) 33 then (if isAt s (i + 2) 45 && isAt s (i + 3) 45 then 1 else 2)
    else if isAt s (i + 1) 63 then 2
    else if isAt s (i + 1) 47 then (if letAt s (i + 2) then 3 else 0)
    else if letAt s (i + 1) then 4 else 0
  else 0
def tokAt (s : ByteArray) (i : Nat) : TokR × Nat :=
  match kindAt s i with
  | 1 => (⟨4, i, ⟨#[]⟩, s.extract (i + 4) (upE s (i + 4) [45, 45, 62]), []⟩, upN s (i + 4) [45, 45, 62])
  | 2 => (⟨5, i, ⟨#[]⟩, s.extract (i + 2) (upE s (i + 2) [62]), []⟩, upN s (i + 2) [62])
  | 3 => (⟨3, i, lowBA (s.extract (i + 2) (skipTo tagN s (i + 2))), ⟨#[]⟩, []⟩, upN s (skipTo tagN s (i + 2)) [62])
  | 4 => (⟨2, i, lowBA (s.extract (i + 1) (skipTo tagN s (i + 1))), ⟨#[]⟩, (attsV s (skipTo tagN s (i + 1))).1⟩, min ((attsV s (skipTo tagN s (i + 1))).2 + 1) s.size)
  | _ => (⟨0, 0, ⟨#[]⟩, ⟨#[]⟩, []⟩, 0)

theorem isAt_lt {s : ByteArray} {i : Nat} {n : Int} (h : isAt s i n = true) : i < s.size ∧ nAt s i = n := by
  simpa [isAt] using h
theorem letAt_lt {s : ByteArray} {i : Nat} (h : letAt s i = true) : i < s.size ∧ isLetterP (nAt s i) = true := by
  simpa [letAt] using h
theorem kind_bool3 {s : ByteArray} {k : Nat} (h : k + 2 < s.size) : decide (kindAt s k ≠ 0) = ((nAt s k == 60) && (isLetterP (nAt s (k + 1)) || (nAt s (k + 1) == 33) || (nAt s (k + 1) == 63) || ((nAt s (k + 1) == 47) && isLetterP (nAt s (k + 2))))) := by
  have h1 : k + 1 < s.size := by omega
  have h0 : k < s.size := by omega
  simp only [kindAt, isAt, letAt, h, h1, h0, decide_true, Bool.true_and, decide_eq_true_eq]
  by_cases a0 : nAt s k = 60
  · by_cases a1 : nAt s (k + 1) = 33
    · rw [if_pos a0, if_pos a1]
      split <;> simp [a0, a1]
    · by_cases a2 : nAt s (k + 1) = 63
      · rw [if_pos a0, if_neg a1, if_pos a2]
        simp [a0, a2]
      · by_cases a3 : nAt s (k + 1) = 47
        · rw [if_pos a0, if_neg a1, if_neg a2, if_pos a3, a0, a3]
          cases isLetterP (nAt s (k + 2)) <;> rfl
        · rw [if_pos a0, if_neg a1, if_neg a2, if_neg a3, a0]
          have e1 : (nAt s (k + 1) == 33) = false := by simpa using a1
          have e2 : (nAt s (k + 1) == 63) = false := by simpa using a2
          have e3 : (nAt s (k + 1) == 47) = false := by simpa using a3
          rw [e1, e2, e3]
          cases isLetterP (nAt s (k + 1)) <;> rfl
  · rw [if_neg a0]
    have e1 : (nAt s k == 60) = false := by simpa using a0
    rw [e1]; rfl
theorem kind_bool2 {s : ByteArray} {k : Nat} (h : k + 1 < s.size) (h2 : ¬ k + 2 < s.size) : decide (kindAt s k ≠ 0) = ((nAt s k == 60) && (isLetterP (nAt s (k + 1)) || (nAt s (k + 1) == 33) || (nAt s (k + 1) == 63))) := by
  have h0 : k < s.size := by omega
  have h3 : ¬ k + 3 < s.size := by omega
  simp only [kindAt, isAt, letAt, h, h2, h3, h0, decide_true, decide_false, Bool.true_and, Bool.false_and, decide_eq_true_eq]
  by_cases a0 : nAt s k = 60
  · by_cases a1 : nAt s (k + 1) = 33
    · rw [if_pos a0, if_pos a1]
      simp [a0, a1]
    · by_cases a2 : nAt s (k + 1) = 63
      · rw [if_pos a0, if_neg a1, if_pos a2]
        simp [a0, a2]
      · by_cases a3 : nAt s (k + 1) = 47
        · rw [if_pos a0, if_neg a1, if_neg a2, if_pos a3, a0, a3]
          rfl
        · rw [if_pos a0, if_neg a1, if_neg a2, if_neg a3, a0]
          have e1 : (nAt s (k + 1) == 33) = false := by simpa using a1
          have e2 : (nAt s (k + 1) == 63) = false := by simpa using a2
          rw [e1, e2]
          cases isLetterP (nAt s (k + 1)) <;> rfl
  · rw [if_neg a0]
    have e1 : (nAt s k == 60) = false := by simpa using a0
    rw [e1]; rfl
theorem kind_bool1 {s : ByteArray} {k : Nat} (h : ¬ k + 1 < s.size) : decide (kindAt s k ≠ 0) = false := by
  simp [kindAt, isAt, letAt, h]
theorem tok_le {s : ByteArray} {i : Nat} (h : kindAt s i ≠ 0) : i < s.size ∧ i + 2 ≤ (tokAt s i).2 ∧ (tokAt s i).2 ≤ s.size := by
  have hk : kindAt s i = 1 ∨ kindAt s i = 2 ∨ kindAt s i = 3 ∨ kindAt s i = 4 := by
    unfold kindAt at h ⊢
    repeat' split
    all_goals simp_all
  have h0 : isAt s i 60 = true := by
    cases h1 : isAt s i 60
    · exact absurd (by simp [kindAt, h1]) h
    · rfl
  have hi := (isAt_lt h0).1
  refine ⟨hi, ?_⟩
  rcases hk with hk | hk | hk | hk
  · have h4 : i + 4 ≤ s.size := by
      cases h3 : isAt s (i + 3) 45
      · exfalso
        simp [kindAt, h3] at hk
        repeat' split at hk
        all_goals simp_all
      · have := (isAt_lt h3).1; omega
    have := upE_le (s := s) (i := i + 4) (t := [45, 45, 62]) h4
    simp only [tokAt, hk]; omega
  · have h4 : i + 2 ≤ s.size := by
      cases h3 : isAt s (i + 1) 33
      · cases h5 : isAt s (i + 1) 63
        · exfalso
          simp [kindAt, h3, h5] at hk
          repeat' split at hk
          all_goals simp_all
        · have := (isAt_lt h5).1; omega
      · have := (isAt_lt h3).1; omega
    have := upE_le (s := s) (i := i + 2) (t := [62]) h4
    simp only [tokAt, hk]; omega
  · have h4 : i + 2 ≤ s.size := by
      cases h3 : letAt s (i + 2)
      · exfalso
        simp [kindAt, h3] at hk
        repeat' split at hk
        all_goals simp_all
      · have := (letAt_lt h3).1; omega
    have h5 := skip_le (p := tagN) (s := s) (i := i + 2) h4
    have := upE_le (s := s) (i := skipTo tagN s (i + 2)) (t := [62]) h5.2
    simp only [tokAt, hk]; omega
  · have h4 : i + 1 < s.size ∧ isLetterP (nAt s (i + 1)) = true := by
      cases h3 : letAt s (i + 1)
      · exfalso
        simp [kindAt, h3] at hk
        repeat' split at hk
        all_goals simp_all
      · exact letAt_lt h3
    have h5 : skipTo tagN s (i + 1) = skipTo tagN s (i + 1 + 1) := skip_in h4.1 (by simp [tagN, h4.2])
    have h6 := skip_le (p := tagN) (s := s) (i := i + 1 + 1) (by omega)
    have h7 := attsV_le (s := s) (i := skipTo tagN s (i + 1)) (by omega)
    simp only [tokAt, hk]; omega

/-- elements whose content is no HTML -/
def rawB (name : ByteArray) : Bool := (name.toList == [115, 99, 114, 105, 112, 116]) || (name.toList == [115, 116, 121, 108, 101]) || (name.toList == [116, 105, 116, 108, 101]) || (name.toList == [116, 101, 120, 116, 97, 114, 101, 97])
/-- does an end tag of an element begin at i -/
def endAt (s name : ByteArray) (i : Nat) : Bool :=
  decide (i + 2 + name.size ≤ s.size) && isAt s i 60 && isAt s (i + 1) 47 && (lowerL (s.extract (i + 2) (i + 2 + name.size)).data.toList == name.data.toList) && (decide (i + 2 + name.size = s.size) || !tagN (nAt s (i + 2 + name.size)))
def rawEnd (s name : ByteArray) (i : Nat) : Nat := seekTo (endAt s name) s.size i
def charsL (s : ByteArray) (a b : Nat) : List TokR := if a < b then [⟨1, a, ⟨#[]⟩, s.extract a b, []⟩] else []
theorem charsL_len (s : ByteArray) (a b : Nat) : (charsL s a b).length ≤ 1 := by unfold charsL; split <;> simp
/-- does raw content follow -/
def rawT (t : TokR) : Bool := decide (t.kind = 2) && rawB t.name
/-- what a token brings, and where one goes on -/
def tokL (s : ByteArray) (i : Nat) : List TokR := (tokAt s i).1 :: (if rawT (tokAt s i).1 then charsL s (tokAt s i).2 (rawEnd s (tokAt s i).1.name (tokAt s i).2) else [])
def tokN (s : ByteArray) (i : Nat) : Nat := if rawT (tokAt s i).1 then rawEnd s (tokAt s i).1.name (tokAt s i).2 else (tokAt s i).2
theorem tokN_le {s : ByteArray} {i : Nat} (h : kindAt s i ≠ 0) : i < s.size ∧ i + 2 ≤ tokN s i ∧ tokN s i ≤ s.size := by
  have h1 := tok_le h
  refine ⟨h1.1, ?_⟩
  unfold tokN
  split
  · have := seekTo_le (p := endAt s (tokAt s i).1.name) (n := s.size) (i := (tokAt s i).2) h1.2.2
    unfold rawEnd; omega
  · exact h1.2
theorem tokL_len (s : ByteArray) (i : Nat) : 1 ≤ (tokL s i).length ∧ (tokL s i).length ≤ 2 := by
  unfold tokL
  split
  · have := charsL_len s (tokAt s i).2 (rawEnd s (tokAt s i).1.name (tokAt s i).2)
    simp only [List.length_cons]; omega
  · simp
/-- the tokens from i on, bytes from a on having been passed by -/
def toksF (s : ByteArray) : Nat → Nat → Nat → List TokR
  | 0, _, a => charsL s a s.size
  | f + 1, i, a => if i < s.size then (if kindAt s i = 0 then toksF s f (i + 1) a else charsL s a i ++ tokL s i ++ toksF s f (tokN s i) (tokN s i)) else charsL s a s.size
def toksV (s : ByteArray) : List TokR := toksF s s.size 0 0
def ToksRel (s : ByteArray) (D : List TokR) (i a : Nat) : Prop := ∃ f, s.size - i ≤ f ∧ toksV s = D ++ toksF s f i a
theorem ToksRel.start (s : ByteArray) : ToksRel s [] 0 0 := ⟨s.size, by omega, by simp [toksV]⟩
theorem ToksRel.stop {s : ByteArray} {i a : Nat} {D : List TokR} (h : ToksRel s D i a) (hi : s.size ≤ i) : toksV s = D ++ charsL s a s.size := by
  obtain ⟨f, _, h2⟩ := h
  rw [h2]
  cases f with
  | zero => rfl
  | succ f => rw [toksF, if_neg (by omega)]
theorem ToksRel.skip {s : ByteArray} {i a : Nat} {D : List TokR} (h : ToksRel s D i a) (hi : i < s.size) (h1 : kindAt s i = 0) : ToksRel s D (i + 1) a := by
  obtain ⟨f, hf, h3⟩ := h
  obtain ⟨g, rfl⟩ : ∃ g, f = g + 1 := ⟨f - 1, by omega⟩
  exact ⟨g, by omega, by rw [h3, toksF, if_pos hi, if_pos h1]⟩
theorem ToksRel.push {s : ByteArray} {i a : Nat} {D : List TokR} (h : ToksRel s D i a) (h1 : kindAt s i ≠ 0) : ToksRel s (D ++ charsL s a i ++ tokL s i) (tokN s i) (tokN s i) := by
  obtain ⟨f, hf, h3⟩ := h
  have h2 := tokN_le h1
  obtain ⟨g, rfl⟩ : ∃ g, f = g + 1 := ⟨f - 1, by omega⟩
  refine ⟨g, by omega, ?_⟩
  rw [h3, toksF, if_pos h2.1, if_neg h1]
  simp [List.append_assoc]
theorem ToksRel.many {s : ByteArray} {i a : Nat} {D : List TokR} (h : ToksRel s D i a) : D.length ≤ (toksV s).length := by
  obtain ⟨f, _, h2⟩ := h
  rw [h2, List.length_append]; omega
theorem ToksRel.skipTo {s : ByteArray} {i a : Nat} {D : List TokR} (h : ToksRel s D i a) (hi : i ≤ s.size) : ToksRel s D (seekTo (fun j => decide (kindAt s j ≠ 0)) s.size i) a := by
  induction hn : s.size - i generalizing i with
  | zero => rw [seek_end (by omega)]; exact h
  | succ n ih =>
    by_cases hk : kindAt s i = 0
    · rw [seek_miss (by omega) (by simp [hk])]
      exact ih (h.skip (by omega) hk) (by omega) (by omega)
    · rw [seek_hit (by omega) (by simp [hk])]; exact h
/-- all tokens, where there are not too many -/
def tokE (s : ByteArray) : Int := if 200000 < s.size then 4 else if 20000 < (toksV s).length then 4 else 0
def tokR (s : ByteArray) : List TokR := if tokE s = 0 then toksV s else []

end Go.Proofs.YtbhildmalcfhiaaGreatDoor
