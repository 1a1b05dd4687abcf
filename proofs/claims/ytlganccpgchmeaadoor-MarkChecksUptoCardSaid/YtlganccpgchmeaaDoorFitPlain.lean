/-
  Which documents can be printed, plainly.
-/
import Derived.Test.YtlganccpgchmeaaDoorCheckPlain
import Derived.Test.YtlganccpgchmeaaDoorIdsPlain
import Derived.Lib.SlTrimSet
import Derived.Shelf.Strings.Split
import Derived.Lib.CutLaws
namespace Go.Proofs.YtlganccpgchmeaaDoor
open Go.RowKit Go.Deep

def blkB (c : UInt8) : Bool := c == 32 || c == 9
def hdB (s : List UInt8) : Bool := match s with | [] => false | c :: _ => blkB c
def ltB (s : List UInt8) : Bool := hdB s.reverse
theorem blk_cs (c : UInt8) : ([32, 9] : List UInt8).contains c = blkB c := by simp [blkB, List.contains, List.elem]; cases c == 32 <;> cases c == 9 <;> simp
def stripL (l : List UInt8) : List UInt8 := l.dropWhile blkB
def stripR (l : List UInt8) : List UInt8 := (stripL l.reverse).reverse
theorem cs_fun : (fun c : UInt8 => ([32, 9] : List UInt8).contains c) = blkB := funext blk_cs
theorem trimS_strip (l : List UInt8) : Lib.trimS l [32, 9] = stripL (stripR l) := by
  unfold Lib.trimS Lib.trimLeftS Lib.trimRightS stripR stripL
  rw [cs_fun]
theorem stripL_of {l : List UInt8} (h : hdB l = false) : stripL l = l := by
  cases l with
  | nil => rfl
  | cons c r => unfold stripL; rw [List.dropWhile_cons, if_neg (by simpa [hdB] using h)]
theorem stripL_step {c : UInt8} {r : List UInt8} (h : blkB c = true) : stripL (c :: r) = stripL r := by
  unfold stripL; rw [List.dropWhile_cons, if_pos h]
theorem stripL_hd : ∀ (l : List UInt8), hdB (stripL l) = false
  | [] => rfl
  | c :: r => by
    by_cases h : blkB c = true
    · rw [stripL_step h]; exact stripL_hd r
    · rw [stripL_of (l := c :: r) (by simpa [hdB] using h)]; simpa [hdB] using h
theorem stripL_len : ∀ (l : List UInt8), (stripL l).length ≤ l.length
  | [] => Nat.le_refl _
  | c :: r => by
    by_cases h : blkB c = true
    · rw [stripL_step h]; have := stripL_len r; simp; omega
    · rw [stripL_of (l := c :: r) (by simpa [hdB] using h)]; exact Nat.le_refl _
theorem stripL_eq {l : List UInt8} (h : stripL l = l) : hdB l = false := by rw [← h]; exact stripL_hd l
theorem stripR_len (l : List UInt8) : (stripR l).length ≤ l.length := by unfold stripR; rw [List.length_reverse]; have := stripL_len l.reverse; rwa [List.length_reverse] at this
theorem stripR_of {l : List UInt8} (h : ltB l = false) : stripR l = l := by unfold stripR; rw [stripL_of h, List.reverse_reverse]
theorem stripR_eq {l : List UInt8} (h : stripR l = l) : ltB l = false := stripL_eq (by unfold stripR at h; rw [← List.reverse_reverse (stripL l.reverse), h])
/-- the trimmed string is the string itself -/
theorem strip_same (l : List UInt8) : (stripL (stripR l) = l) ↔ (hdB l = false ∧ ltB l = false) := by
  constructor
  · intro h
    have h1 := stripL_len (stripR l)
    have h2 := stripR_len l
    have h3 : (stripL (stripR l)).length = l.length := by rw [h]
    have hr : stripR l = l := by
      have hs : (stripR l).length = l.length := by omega
      have hL : ∀ (k : List UInt8), (stripL k).length = k.length → stripL k = k := by
        intro k hk
        cases k with
        | nil => rfl
        | cons c r =>
          by_cases hb : blkB c = true
          · rw [stripL_step hb] at hk; have := stripL_len r; simp at hk; omega
          · exact stripL_of (by simpa [hdB] using hb)
      unfold stripR at hs ⊢
      rw [List.length_reverse] at hs
      rw [hL l.reverse (by rw [hs, List.length_reverse]), List.reverse_reverse]
    rw [hr] at h
    exact ⟨stripL_eq h, stripR_eq hr⟩
  · rintro ⟨h1, h2⟩
    rw [stripR_of h2, stripL_of h1]
theorem stripL_nil : ∀ (l : List UInt8), stripL l = [] ↔ l.all blkB = true
  | [] => by simp [stripL]
  | c :: r => by
    by_cases h : blkB c = true
    · rw [stripL_step h, stripL_nil r]; simp [h]
    · rw [stripL_of (l := c :: r) (by simpa [hdB] using h)]; simp [h]
theorem strip_nil (l : List UInt8) : stripL (stripR l) = [] ↔ l.all blkB = true := by
  constructor
  · intro h
    have h1 : (stripR l).all blkB = true := (stripL_nil _).1 h
    by_cases hr : stripL l.reverse = []
    · have := (stripL_nil l.reverse).1 hr
      simpa using this
    · obtain ⟨c, r, hc⟩ := List.exists_cons_of_ne_nil hr
      have h2 := stripL_hd l.reverse
      rw [hc] at h2
      unfold stripR at h1
      rw [hc] at h1
      simp [hdB] at h1 h2
      rw [h2] at h1
      simp at h1
  · intro h
    have : stripL l.reverse = [] := (stripL_nil _).2 (by simpa using h)
    unfold stripR
    rw [this]; rfl

/-- trimmed, the front first -/
def markStrip (l : List UInt8) : List UInt8 := stripR (stripL l)
theorem markStrip_rev (l : List UInt8) : markStrip l = (stripL (stripR l.reverse)).reverse := by
  unfold markStrip stripR
  rw [List.reverse_reverse]
theorem markStrip_same (l : List UInt8) : (markStrip l = l) ↔ (hdB l = false ∧ ltB l = false) := by
  rw [markStrip_rev]
  constructor
  · intro h
    have h1 := congrArg List.reverse h
    rw [List.reverse_reverse] at h1
    have h2 := (strip_same _).1 h1
    unfold ltB at *
    rw [List.reverse_reverse] at h2
    exact ⟨h2.2, h2.1⟩
  · rintro ⟨h1, h2⟩
    have h3 : stripL (stripR l.reverse) = l.reverse := (strip_same _).2 ⟨h2, by unfold ltB; rw [List.reverse_reverse]; exact h1⟩
    rw [h3, List.reverse_reverse]
theorem markStrip_nil (l : List UInt8) : markStrip l = [] ↔ l.all blkB = true := by
  rw [markStrip_rev, List.reverse_eq_nil_iff, strip_nil]
  simp
theorem stripR_step {a : List UInt8} {c : UInt8} (h : blkB c = true) : stripR (a ++ [c]) = stripR a := by
  unfold stripR
  rw [List.reverse_append]
  show (stripL (c :: a.reverse)).reverse = _
  rw [stripL_step h]
theorem ltB_snoc (a : List UInt8) (c : UInt8) : ltB (a ++ [c]) = blkB c := by unfold ltB; rw [List.reverse_append]; rfl
/-- the lines of a text -/
def baseT (s : ByteArray) : ByteArray := ⟨(Lib.trimSuffix s.data.toList [10]).toArray⟩
def linesB (s : ByteArray) : List ByteArray := if s.size = 0 then [] else Lib.splitB ⟨#[10]⟩ 0 (Lib.countB (baseT s) ⟨#[10]⟩) (baseT s)
theorem splitB_size (sep : ByteArray) : ∀ (k : Nat) (s p : ByteArray), p ∈ Lib.splitB sep 0 k s → p.size ≤ s.size
  | 0, s, p, h => by simp [Lib.splitB] at h; rw [h]; exact Nat.le_refl _
  | k + 1, s, p, h => by
    rcases Lib.indexB_cases s sep with hi | ⟨i, hi2, _⟩
    · rw [Lib.splitB_miss _ _ _ _ hi] at h
      simp only [List.mem_singleton] at h
      rw [h]; exact Nat.le_refl _
    · rw [Lib.splitB_hit _ _ _ _ i hi2] at h
      rcases List.mem_cons.1 h with h1 | h1
      · rw [h1]; simp only [ByteArray.size_extract]; omega
      · have := splitB_size sep k _ p h1
        simp only [ByteArray.size_extract] at this; omega
theorem baseT_size (s : ByteArray) : (baseT s).size ≤ s.size := by
  show (Lib.trimSuffix s.data.toList [10]).length ≤ s.size
  unfold Lib.trimSuffix
  rw [← size_toList s]
  split <;> simp
theorem linesB_size {s p : ByteArray} (h : p ∈ linesB s) : p.size ≤ s.size := by
  unfold linesB at h
  split at h
  · cases h
  · exact Nat.le_trans (splitB_size _ _ _ _ h) (baseT_size s)
theorem linesB_len {s : ByteArray} (h : ¬ s.size = 0) : (linesB s).length = Lib.countB (baseT s) ⟨#[10]⟩ + 1 := by
  unfold linesB
  rw [if_neg h]
  exact Lib.splitB_all _ (by decide) _ _ _ rfl

def endFB (x : List UInt8) : Bool := Lib.hasPrefix x [96, 96, 96] && (x.drop 3).all blkB
/-- a line that a fence cannot hold -/
def badLine (x : List UInt8) : Bool := (!x.isEmpty && x.all blkB) || endFB x
def fenceB (t d : ByteArray) : Bool := !((!t.data.toList.isEmpty && !Lib.hasSuffix t.data.toList [10]) || (hdB d.data.toList || ltB d.data.toList)) && (linesB t).all (fun x => !badLine x.data.toList)

def brk (k : Int) : Bool := k == 12 || k == 13
def star (k : Int) : Bool := k == 14 || k == 15
def txt (n : Node) : List UInt8 := n.text.data.toList
def pairB (a b : Node) : Bool :=
  if (a.kind == 11 && b.kind == 11) || (brk a.kind && brk b.kind) || (star a.kind && star b.kind) then false
  else if a.kind == 11 && brk b.kind then !ltB (txt a)
  else if brk a.kind && b.kind == 11 then !hdB (txt b) else true
def edgeB (p : Int) (l : List Node) : Bool :=
  match l.head?, l.getLast? with
  | some a, some b => !(brk a.kind || brk b.kind || (star p && (star a.kind || star b.kind)))
  | _, _ => true
def inD (c : UInt8) : Bool := decide (32 < c.toNat) && (c != 40 && c != 41 && c != 34 && c != 92)
def inT (c : UInt8) : Bool := c != 34 && c != 92 && c != 10
def barB (kd : Int) (s : ByteArray) : Bool := kd == 10 && s.data.toList.contains 124
def tgtB (d t : ByteArray) (kd : Int) : Bool := !d.data.toList.isEmpty && d.data.toList.all inD && t.data.toList.all inT && !barB kd d && !barB kd t
def linkC (d t : ByteArray) : Bool := (d.data.toList ++ t.data.toList).any (fun c => c == 91 || c == 93 || c == 96)
def pvB (pv : Option Node) (n : Node) : Bool := match pv with | none => true | some a => pairB a n
def inlL : List Node → Option Node → Bool → Bool → Bool → Int → Bool
  | [], _, _, _, _, _ => true
  | .mk k lv t d ti ks :: r, pv, em, st, li, kd =>
    pvB pv (.mk k lv t d ti ks) &&
    (if k = 11 then !t.data.toList.isEmpty
     else if k = 16 then !t.data.toList.isEmpty && !t.data.toList.contains 96 && !barB kd t
     else if k = 12 ∨ k = 13 then kd == 2
     else if k = 18 then !(li && linkC d ti) && tgtB d ti kd && !barB kd t
     else if k = 17 then !li && tgtB d ti kd && (!ks.isEmpty && edgeB 17 ks && inlL ks none em st true kd)
     else if k = 14 then !em && (!ks.isEmpty && edgeB 14 ks && inlL ks none true st li kd)
     else if k = 15 then !st && (!ks.isEmpty && edgeB 15 ks && inlL ks none em true li kd)
     else false) &&
    inlL r (some (.mk k lv t d ti ks)) em st li kd
def inlN (n : Node) (em st li : Bool) (kd : Int) : Bool :=
  if n.kind = 11 then !(txt n).isEmpty
  else if n.kind = 16 then !(txt n).isEmpty && !(txt n).contains 96 && !barB kd n.text
  else if n.kind = 12 ∨ n.kind = 13 then kd == 2
  else if n.kind = 18 then !(li && linkC n.dest n.title) && tgtB n.dest n.title kd && !barB kd n.text
  else if n.kind = 17 then !li && tgtB n.dest n.title kd && (!n.kids.isEmpty && edgeB 17 n.kids && inlL n.kids none em st true kd)
  else if n.kind = 14 then !em && (!n.kids.isEmpty && edgeB 14 n.kids && inlL n.kids none true st li kd)
  else if n.kind = 15 then !st && (!n.kids.isEmpty && edgeB 15 n.kids && inlL n.kids none em true li kd)
  else false
theorem inlL_cons (n : Node) (r : List Node) (pv : Option Node) (em st li : Bool) (kd : Int) : inlL (n :: r) pv em st li kd = (pvB pv n && inlN n em st li kd && inlL r (some n) em st li kd) := by cases n; rw [inlL]; rfl
/-- the node ahead of number k -/
def prevN (l : List Node) (k : Nat) : Option Node := if k = 0 then none else l[k - 1]?
theorem inlL_at {l : List Node} {k : Nat} {n : Node} (em st li : Bool) (kd : Int) (h : l[k]? = some n) : inlL (l.drop k) (prevN l k) em st li kd = (pvB (prevN l k) n && inlN n em st li kd && inlL (l.drop (k + 1)) (prevN l (k + 1)) em st li kd) := by
  obtain ⟨hk, rfl⟩ := List.getElem?_eq_some_iff.1 h
  rw [List.drop_eq_getElem_cons hk, inlL_cons]
  congr 1
  unfold prevN
  rw [if_neg (by omega), Nat.add_sub_cancel, List.getElem?_eq_getElem hk]
theorem inlL_end (l : List Node) (em st li : Bool) (kd : Int) (pv : Option Node) : inlL (l.drop l.length) pv em st li kd = true := by rw [List.drop_length, inlL]
theorem inlL_end2 {l : List Node} {k : Nat} (hk : k = l.length) (em st li : Bool) (kd : Int) (pv : Option Node) : inlL (l.drop k) pv em st li kd = true := by rw [hk]; exact inlL_end _ _ _ _ _ _
theorem prevN_zero (l : List Node) : prevN l 0 = none := rfl
theorem prevN_succ {l : List Node} {k : Nat} {n : Node} (h : l[k]? = some n) : prevN l (k + 1) = some n := by unfold prevN; rw [if_neg (by omega), Nat.add_sub_cancel, h]

/-- a line's ends have no blanks -/
def endsB (l : List Node) : Bool :=
  match l.head?, l.getLast? with
  | some a, some b => !((a.kind == 11 && hdB (txt a)) || (b.kind == 11 && ltB (txt b)))
  | _, _ => true
def lineB (l : List Node) (kd : Int) : Bool := endsB l && edgeB kd l && inlL l none false false false kd
def pvL (pv : Option Node) (n : Node) : Bool := match pv with | none => true | some a => !(n.kind == 5 && a.kind == 5 && (decide (n.level < 0) == decide (a.level < 0)))
def blkL : List Node → Option Node → Bool
  | [], _ => true
  | .mk k lv t d ti ks :: r, pv =>
    pvL pv (.mk k lv t d ti ks) &&
    (if k = 7 then true else if k = 3 then fenceB t d else if k = 1 then lineB ks 1 else if k = 2 then !ks.isEmpty && lineB ks 2 else if k = 10 then lineB ks 10 else !ks.isEmpty && blkL ks none) &&
    blkL r (some (.mk k lv t d ti ks))
def blkN (n : Node) : Bool :=
  if n.kind = 7 then true else if n.kind = 3 then fenceB n.text n.dest else if n.kind = 1 then lineB n.kids 1 else if n.kind = 2 then !n.kids.isEmpty && lineB n.kids 2 else if n.kind = 10 then lineB n.kids 10 else !n.kids.isEmpty && blkL n.kids none
theorem blkL_cons (n : Node) (r : List Node) (pv : Option Node) : blkL (n :: r) pv = (pvL pv n && blkN n && blkL r (some n)) := by cases n; rw [blkL]; rfl
theorem blkL_at {l : List Node} {k : Nat} {n : Node} (h : l[k]? = some n) : blkL (l.drop k) (prevN l k) = (pvL (prevN l k) n && blkN n && blkL (l.drop (k + 1)) (prevN l (k + 1))) := by
  obtain ⟨hk, rfl⟩ := List.getElem?_eq_some_iff.1 h
  rw [List.drop_eq_getElem_cons hk, blkL_cons, prevN_succ h]
theorem blkL_end2 {l : List Node} {k : Nat} (hk : k = l.length) (pv : Option Node) : blkL (l.drop k) pv = true := by rw [hk, List.drop_length, blkL]

/-- what a valid document's node is -/
theorem nodesErr_mem {l : List Node} {p : Int} (h : nodesErr l p = 0) {k : Nat} {n : Node} (hn : l[k]? = some n) : nodeErr n p = 0 ∧ nodesErr n.kids n.kind = 0 := by
  have key : ∀ (l : List Node) (k : Nat), nodesErr l p = 0 → l[k]? = some n → nodeErr n p = 0 ∧ nodesErr n.kids n.kind = 0 := by
    intro l
    induction l with
    | nil => intro k _ h; simp at h
    | cons a r ih =>
      intro k h hk
      obtain ⟨h1, h2, h3⟩ := nodesErr_at0 h
      cases k with
      | zero => simp at hk; subst hk; exact ⟨h1, h2⟩
      | succ k => exact ih k h3 (by simpa using hk)
  exact key l k h hn

end Go.Proofs.YtlganccpgchmeaaDoor
