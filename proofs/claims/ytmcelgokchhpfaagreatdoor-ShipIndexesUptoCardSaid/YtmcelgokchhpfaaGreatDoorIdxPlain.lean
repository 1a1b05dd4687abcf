/-
  An index as it lies in memory; its error and its text, plainly.
-/
import Derived.Test.YtmcelgokchhpfaaGreatDoorAddresses
import Derived.Test.YtmcelgokchhpfaaGreatDoorWordsPlain
import Derived.Lib.ItoaLen
namespace Go.Proofs.YtmcelgokchhpfaaGreatDoor
open Go.RowKit Go.ChangeShapes Go.WideShapes Go.Deep

structure DocR where
  addr : ByteArray
  title : ByteArray
  text : ByteArray
structure TermR where
  word : ByteArray
  docs : List Int
  many : List Int

/-- numbers as they lie -/
def IntsAt (w : World) (v : Value) (l : List Int) : Prop :=
  ∃ (A : Option Addr) (c b o : Nat), v = .slice A l.length c ∧ l.length ≤ c ∧ c ≤ maxLen ∧ (l ≠ [] → A = some ⟨b, o, none⟩) ∧ ∀ i n, l[i]? = some n → w.cell? ⟨b, o + i, none⟩ = some (.int .i64 n) ∧ I64 n
theorem IntsAt.keep {w w' : World} {v : Value} {l : List Int} (h : IntsAt w v l) (k : Keeps w w') : IntsAt w' v l := by
  obtain ⟨A, c, b, o, h1, h2, h3, h4, h5⟩ := h
  exact ⟨A, c, b, o, h1, h2, h3, h4, fun i n hn => ⟨k _ _ (h5 i n hn).1, (h5 i n hn).2⟩⟩

structure DocCells (w : World) (b o : Nat) (n : DocR) : Prop where
  c0 : w.cell? ⟨b, o, none⟩ = some (.string n.addr)
  c1 : w.cell? ⟨b, o + 1, none⟩ = some (.string n.title)
  c2 : w.cell? ⟨b, o + 2, none⟩ = some (.string n.text)
theorem DocCells.keep {w w' : World} {b o : Nat} {n : DocR} (h : DocCells w b o n) (k : Keeps w w') : DocCells w' b o n := ⟨k _ _ h.c0, k _ _ h.c1, k _ _ h.c2⟩
def DocsAt (w : World) (v : Value) (l : List DocR) : Prop :=
  ∃ (A : Option Addr) (c b o : Nat), v = .slice A l.length c ∧ l.length ≤ c ∧ c ≤ maxLen ∧ (l ≠ [] → A = some ⟨b, o, none⟩) ∧ ∀ i n, l[i]? = some n → DocCells w b (o + i * 3) n
theorem DocsAt.keep {w w' : World} {v : Value} {l : List DocR} (h : DocsAt w v l) (k : Keeps w w') : DocsAt w' v l := by
  obtain ⟨A, c, b, o, h1, h2, h3, h4, h5⟩ := h
  exact ⟨A, c, b, o, h1, h2, h3, h4, fun i n hn => (h5 i n hn).keep k⟩

structure TermCells (w : World) (b o : Nat) (n : TermR) (dv mv : Value) : Prop where
  c0 : w.cell? ⟨b, o, none⟩ = some (.string n.word)
  c1 : w.cell? ⟨b, o + 1, none⟩ = some dv
  c2 : w.cell? ⟨b, o + 2, none⟩ = some mv
  d : IntsAt w dv n.docs
  m : IntsAt w mv n.many
theorem TermCells.keep {w w' : World} {b o : Nat} {n : TermR} {dv mv : Value} (h : TermCells w b o n dv mv) (k : Keeps w w') : TermCells w' b o n dv mv := ⟨k _ _ h.c0, k _ _ h.c1, k _ _ h.c2, h.d.keep k, h.m.keep k⟩
def TermsAt (w : World) (v : Value) (l : List TermR) : Prop :=
  ∃ (A : Option Addr) (c b o : Nat) (dv mv : Nat → Value), v = .slice A l.length c ∧ l.length ≤ c ∧ c ≤ maxLen ∧ (l ≠ [] → A = some ⟨b, o, none⟩) ∧ ∀ i n, l[i]? = some n → TermCells w b (o + i * 3) n (dv i) (mv i)
theorem TermsAt.keep {w w' : World} {v : Value} {l : List TermR} (h : TermsAt w v l) (k : Keeps w w') : TermsAt w' v l := by
  obtain ⟨A, c, b, o, dv, mv, h1, h2, h3, h4, h5⟩ := h
  exact ⟨A, c, b, o, dv, mv, h1, h2, h3, h4, fun i n hn => (h5 i n hn).keep k⟩

/-- an index, by its three slices -/
structure IdxAt (w : World) (dv sv tv : Value) (D : List DocR) (S : List Int) (T : List TermR) : Prop where
  d : DocsAt w dv D
  s : IntsAt w sv S
  t : TermsAt w tv T
theorem IdxAt.keep {w w' : World} {dv sv tv : Value} {D : List DocR} {S : List Int} {T : List TermR} (h : IdxAt w dv sv tv D S T) (k : Keeps w w') : IdxAt w' dv sv tv D S T := ⟨h.d.keep k, h.s.keep k, h.t.keep k⟩

/-- the first error of n things from number k on -/
def firstE (f : Nat → Int) : Nat → Nat → Int
  | 0, _ => 0
  | n + 1, k => if f k = 0 then firstE f n (k + 1) else f k
theorem firstE_ok {f : Nat → Int} {n k : Nat} (hk : k < n) (h : f k = 0) : firstE f (n - k) k = firstE f (n - (k + 1)) (k + 1) := by
  rw [show n - k = (n - (k + 1)) + 1 by omega, firstE, if_pos h]
theorem firstE_bad {f : Nat → Int} {n k : Nat} {v : Int} (hk : k < n) (h : f k = v) (hv : v ≠ 0) : firstE f (n - k) k = v := by
  rw [show n - k = (n - (k + 1)) + 1 by omega, firstE, if_neg (by rw [h]; exact hv), h]
theorem firstE_end {f : Nat → Int} {n k : Nat} (hk : n ≤ k) : firstE f (n - k) k = 0 := by
  rw [show n - k = 0 by omega]; rfl

/-- has a string a byte below 32 -/
def ctlL (l : List UInt8) : Bool := l.any fun c => decide ((c.toNat : Int) < 32)
theorem ctlL_yes {l : List UInt8} {j : Nat} {c : UInt8} (h : l[j]? = some c) (hc : (c.toNat : Int) < 32) : ctlL l = true := by
  rw [ctlL, List.any_eq_true]; exact ⟨c, List.mem_of_getElem? h, by simpa using hc⟩
theorem ctlL_no {l : List UInt8} (h : ∀ (j : Nat) (c : UInt8), l[j]? = some c → j < l.length → ¬ (c.toNat : Int) < 32) : ctlL l = false := by
  rw [ctlL, List.any_eq_false]
  intro c hc
  obtain ⟨j, hj⟩ := List.mem_iff_getElem?.1 hc
  have := h j c hj (List.getElem?_eq_some_iff.1 hj).1
  simpa using this

/-- does a string not come after another -/
def lsB (x y : ByteArray) : Bool := Op.bytesLess x.toList y.toList || (x.toList == y.toList)
def docPrev (l : List DocR) (x : ByteArray) : Nat → Bool
  | 0 => false
  | j + 1 => match l[j]? with | none => false | some p => lsB x p.addr
theorem docPrev_succ {l : List DocR} {x : ByteArray} {j : Nat} {p : DocR} (h : l[j]? = some p) : docPrev l x (j + 1) = lsB x p.addr := by simp [docPrev, h]
def docE1 (l : List DocR) (k : Nat) : Int :=
  match l[k]? with
  | none => 0
  | some d => if pathV d.addr = false then 3 else if docPrev l d.addr k = true then 5 else if ctlL d.title.data.toList = true then 9 else if d.text.toList.isEmpty = false then 1 else 0
theorem docE1_at {l : List DocR} {k : Nat} {d : DocR} (h : l[k]? = some d) : docE1 l k = if pathV d.addr = false then 3 else if docPrev l d.addr k = true then 5 else if ctlL d.title.data.toList = true then 9 else if d.text.toList.isEmpty = false then 1 else 0 := by
  rw [docE1, h]
def docsE (l : List DocR) : Int := if 120 < l.length then 4 else firstE (docE1 l) l.length 0

def sizeE1 (S : List Int) (k : Nat) : Int := match S[k]? with | none => 0 | some n => if n < 0 ∨ 200000 < n then 2 else 0
theorem sizeE1_bad {S : List Int} {k : Nat} {n : Int} (h : S[k]? = some n) (hn : n < 0 ∨ 200000 < n) : sizeE1 S k = 2 := by rw [sizeE1, h]; simp only; rw [if_pos hn]
theorem sizeE1_ok {S : List Int} {k : Nat} {n : Int} (h : S[k]? = some n) (h0 : 0 ≤ n) (h1 : n ≤ 200000) : sizeE1 S k = 0 := by rw [sizeE1, h]; simp only; rw [if_neg (by omega)]
def sizesE (n : Nat) (S : List Int) : Int := if S.length = n then firstE (sizeE1 S) S.length 0 else 1
/-- docsFault -/
def frontE (D : List DocR) (S : List Int) : Int := if docsE D = 0 then sizesE D.length S else docsE D

def intPrev (l : List Int) (x : Int) : Nat → Bool
  | 0 => false
  | j + 1 => match l[j]? with | none => false | some p => decide (x ≤ p)
theorem intPrev_succ {l : List Int} {x : Int} {j : Nat} {p : Int} (h : l[j]? = some p) : intPrev l x (j + 1) = decide (x ≤ p) := by simp [intPrev, h]
def postE1 (n : Nat) (d m : List Int) (k : Nat) : Int :=
  match d[k]?, m[k]? with
  | some x, some y => if x < 0 ∨ (n : Int) ≤ x then 2 else if intPrev d x k = true then 5 else if y < 1 ∨ 600000 < y then 2 else 0
  | _, _ => 0
theorem postE1_at {n : Nat} {d m : List Int} {k : Nat} {x y : Int} (hx : d[k]? = some x) (hy : m[k]? = some y) : postE1 n d m k = if x < 0 ∨ (n : Int) ≤ x then 2 else if intPrev d x k = true then 5 else if y < 1 ∨ 600000 < y then 2 else 0 := by
  rw [postE1, hx, hy]
/-- termFault -/
def termE (n : Nat) (t : TermR) : Int := if t.docs.length = 0 ∨ t.docs.length ≠ t.many.length then 1 else firstE (postE1 n t.docs t.many) t.docs.length 0
def termPrev (l : List TermR) (x : ByteArray) : Nat → Bool
  | 0 => false
  | j + 1 => match l[j]? with | none => false | some p => lsB x p.word
theorem termPrev_succ {l : List TermR} {x : ByteArray} {j : Nat} {p : TermR} (h : l[j]? = some p) : termPrev l x (j + 1) = lsB x p.word := by simp [termPrev, h]
def oneWord (x : ByteArray) : Bool := wordsAux x.data.toList [] == [x.data.toList]
def termE1 (n : Nat) (l : List TermR) (k : Nat) : Int :=
  match l[k]? with
  | none => 0
  | some t => if oneWord t.word = false then 1 else if termPrev l t.word k = true then 5 else termE n t
theorem termE1_at {n : Nat} {l : List TermR} {k : Nat} {t : TermR} (h : l[k]? = some t) : termE1 n l k = if oneWord t.word = false then 1 else if termPrev l t.word k = true then 5 else termE n t := by
  rw [termE1, h]
def termsE (n : Nat) (l : List TermR) : Int := firstE (termE1 n l) l.length 0

/-- the text -/
def itL (n : Int) : List UInt8 := Lib.itoa n
def docT (d : DocR) (n : Int) : List UInt8 := [100, 111, 99, 32] ++ d.addr.data.toList ++ [32] ++ itL n ++ [32] ++ d.title.data.toList ++ [10]
def postT (x y : Int) : List UInt8 := [32] ++ itL x ++ [58] ++ itL y
def postsT : List Int → List Int → List UInt8
  | x :: r, y :: s => postT x y ++ postsT r s
  | _, _ => []
def termT (t : TermR) : List UInt8 := [116, 101, 114, 109, 32] ++ t.word.data.toList ++ postsT t.docs t.many ++ [10]
def docsT : List DocR → List Int → List UInt8
  | d :: r, n :: s => docT d n ++ docsT r s
  | _, _ => []
def termsT : List TermR → List UInt8
  | [] => []
  | t :: r => termT t ++ termsT r
def idxT (D : List DocR) (S : List Int) (T : List TermR) : List UInt8 := docsT D S ++ termsT T

theorem drop_at {A : Type} {l : List A} {k : Nat} {x : A} (h : l[k]? = some x) : l.drop k = x :: l.drop (k + 1) := by
  obtain ⟨hk, rfl⟩ := List.getElem?_eq_some_iff.1 h
  exact List.drop_eq_getElem_cons hk
theorem docsT_at {D : List DocR} {S : List Int} {k : Nat} {d : DocR} {n : Int} (hd : D[k]? = some d) (hn : S[k]? = some n) : docsT (D.drop k) (S.drop k) = docT d n ++ docsT (D.drop (k + 1)) (S.drop (k + 1)) := by
  rw [drop_at hd, drop_at hn]; rfl
theorem postsT_at {D S : List Int} {k : Nat} {x n : Int} (hd : D[k]? = some x) (hn : S[k]? = some n) : postsT (D.drop k) (S.drop k) = postT x n ++ postsT (D.drop (k + 1)) (S.drop (k + 1)) := by
  rw [drop_at hd, drop_at hn]; rfl
theorem termsT_at {T : List TermR} {k : Nat} {t : TermR} (h : T[k]? = some t) : termsT (T.drop k) = termT t ++ termsT (T.drop (k + 1)) := by
  rw [drop_at h]; rfl
theorem docsT_end {D : List DocR} {S : List Int} : docsT (D.drop D.length) S = [] := by rw [List.drop_length]; cases S <;> rfl
theorem postsT_end {D S : List Int} : postsT (D.drop D.length) S = [] := by rw [List.drop_length]; cases S <;> rfl
theorem termsT_end {T : List TermR} : termsT (T.drop T.length) = [] := by rw [List.drop_length]; rfl

/-- the whole error -/
def idxE (D : List DocR) (S : List Int) (T : List TermR) : Int :=
  if frontE D S = 0 then (if termsE D.length T = 0 then (if 400000 < (idxT D S T).length then 4 else 0) else termsE D.length T) else frontE D S
theorem idxE_front {D : List DocR} {S : List Int} {T : List TermR} {v : Int} (h : frontE D S = v) (hv : v ≠ 0) : idxE D S T = v := by rw [idxE, h, if_neg hv]
theorem idxE_terms {D : List DocR} {S : List Int} {T : List TermR} {v : Int} (h : frontE D S = 0) (ht : termsE D.length T = v) (hv : v ≠ 0) : idxE D S T = v := by rw [idxE, if_pos h, ht, if_neg hv]
theorem idxE_text {D : List DocR} {S : List Int} {T : List TermR} (h : frontE D S = 0) (ht : termsE D.length T = 0) : idxE D S T = if 400000 < (idxT D S T).length then 4 else 0 := by rw [idxE, if_pos h, if_pos ht]

/-- how long the text can be -/
theorem itL_len {n : Int} (h : I64 n) : (itL n).length ≤ 21 := Lib.itoa_length_le n h.1 h.2
theorem docT_len {d : DocR} {n : Int} (h : I64 n) : (docT d n).length ≤ d.addr.size + d.title.size + 28 := by
  have := itL_len h
  simp only [docT, List.length_append, size_toList, List.length_cons, List.length_nil]
  omega
def docsW (D : List DocR) : Nat := sumBy (fun d => d.addr.size + d.title.size + 1) D
def termsW (T : List TermR) : Nat := sumBy (fun t => t.word.size + t.docs.length + 1) T
theorem docsT_len : ∀ (D : List DocR) (S : List Int), (∀ n ∈ S, I64 n) → (docsT D S).length ≤ 28 * docsW D
  | [], S, _ => by cases S <;> simp [docsT]
  | d :: r, [], _ => by simp [docsT]
  | d :: r, n :: s, h => by
    have h1 := docsT_len r s (fun x hx => h x (List.mem_cons_of_mem _ hx))
    have h2 := docT_len (d := d) (h n (List.mem_cons_self ..))
    have e : docsW (d :: r) = d.addr.size + d.title.size + 1 + docsW r := by simp [docsW, sumBy]
    rw [e, docsT, List.length_append]
    omega
theorem postsT_len : ∀ (D S : List Int), (∀ n ∈ D, I64 n) → (∀ n ∈ S, I64 n) → (postsT D S).length ≤ 44 * D.length
  | [], S, _, _ => by cases S <;> simp [postsT]
  | d :: r, [], _, _ => by simp [postsT]
  | d :: r, n :: s, h, h' => by
    have h1 := postsT_len r s (fun x hx => h x (List.mem_cons_of_mem _ hx)) (fun x hx => h' x (List.mem_cons_of_mem _ hx))
    have h2 := itL_len (h d (List.mem_cons_self ..))
    have h3 := itL_len (h' n (List.mem_cons_self ..))
    rw [postsT, List.length_append]
    simp only [postT, List.length_append, List.length_cons, List.length_nil]
    omega
theorem termsT_len : ∀ (T : List TermR), (∀ t ∈ T, (∀ n ∈ t.docs, I64 n) ∧ ∀ n ∈ t.many, I64 n) → (termsT T).length ≤ 44 * termsW T
  | [], _ => by simp [termsT]
  | t :: r, h => by
    have h1 := termsT_len r (fun x hx => h x (List.mem_cons_of_mem _ hx))
    have h2 := postsT_len t.docs t.many (h t (List.mem_cons_self ..)).1 (h t (List.mem_cons_self ..)).2
    have e : termsW (t :: r) = t.word.size + t.docs.length + 1 + termsW r := by simp [termsW, sumBy]
    rw [e, termsT, List.length_append]
    simp only [termT, List.length_append, List.length_cons, List.length_nil, size_toList]
    omega
theorem IntsAt.all {w : World} {v : Value} {l : List Int} (h : IntsAt w v l) : ∀ n ∈ l, I64 n := by
  obtain ⟨A, c, b, o, _, _, _, _, h5⟩ := h
  intro n hn
  obtain ⟨i, hi⟩ := List.getElem?_of_mem hn
  exact (h5 i n hi).2
theorem TermsAt.all {w : World} {v : Value} {l : List TermR} (h : TermsAt w v l) : ∀ t ∈ l, (∀ n ∈ t.docs, I64 n) ∧ ∀ n ∈ t.many, I64 n := by
  obtain ⟨A, c, b, o, _, _, _, _, _, _, h5⟩ := h
  intro n hn
  obtain ⟨i, hi⟩ := List.getElem?_of_mem hn
  exact ⟨(h5 i n hi).d.all, (h5 i n hi).m.all⟩
theorem IdxAt.len {w : World} {dv sv tv : Value} {D : List DocR} {S : List Int} {T : List TermR} (h : IdxAt w dv sv tv D S T) : (idxT D S T).length ≤ 28 * docsW D + 44 * termsW T := by
  have h1 := docsT_len D S h.s.all
  have h2 := termsT_len T h.t.all
  rw [idxT, List.length_append]
  omega

end Go.Proofs.YtmcelgokchhpfaaGreatDoor
