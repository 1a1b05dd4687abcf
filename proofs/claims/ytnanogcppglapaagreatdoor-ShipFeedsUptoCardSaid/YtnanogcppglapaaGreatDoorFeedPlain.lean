/-
  Entries of a feed as they lie in memory; their order, their error and their text, plainly.
-/
import Derived.Test.YtnanogcppglapaaGreatDoorIdxDocs
import Derived.Test.YtnanogcppglapaaGreatDoorHitOwn
import Derived.Test.YtnanogcppglapaaGreatDoorEscPlain
import Derived.Test.YtnanogcppglapaaGreatDoorFShow
namespace Go.Proofs.YtnanogcppglapaaGreatDoor
open Go.RowKit Go.ChangeShapes Go.WideShapes Go.Deep

structure EntF where
  title : ByteArray
  addr : ByteArray
  summ : ByteArray
  day : Int
instance : Inhabited EntF := ⟨⟨⟨#[]⟩, ⟨#[]⟩, ⟨#[]⟩, 0⟩⟩
structure EntFCells (w : World) (b o : Nat) (n : EntF) : Prop where
  c0 : w.cell? ⟨b, o, none⟩ = some (.string n.title)
  c1 : w.cell? ⟨b, o + 1, none⟩ = some (.string n.addr)
  c2 : w.cell? ⟨b, o + 2, none⟩ = some (.string n.summ)
  c3 : w.cell? ⟨b, o + 3, none⟩ = some (.int .i64 n.day)
theorem EntFCells.keep {w w' : World} {b o : Nat} {n : EntF} (h : EntFCells w b o n) (k : Keeps w w') : EntFCells w' b o n := ⟨k _ _ h.c0, k _ _ h.c1, k _ _ h.c2, k _ _ h.c3⟩
def EntsFAt (w : World) (v : Value) (l : List EntF) : Prop :=
  ∃ (A : Option Addr) (c b o : Nat), v = .slice A l.length c ∧ l.length ≤ c ∧ c ≤ maxLen ∧ (l ≠ [] → A = some ⟨b, o, none⟩) ∧ ∀ i n, l[i]? = some n → EntFCells w b (o + i * 4) n
theorem EntsFAt.keep {w w' : World} {v : Value} {l : List EntF} (h : EntsFAt w v l) (k : Keeps w w') : EntsFAt w' v l := by
  obtain ⟨A, c, b, o, h1, h2, h3, h4, h5⟩ := h
  exact ⟨A, c, b, o, h1, h2, h3, h4, fun i n hn => (h5 i n hn).keep k⟩

/-! ### the order -/
def toH (x : EntF) : HitV := ⟨x.addr, x.day⟩
def FeedR (x y : EntF) : Prop := HitR (toH x) (toH y)
def ltF (x y : EntF) : Bool := ltH (toH x) (toH y)
theorem ltF_iff {x y : EntF} : ltF x y = true ↔ FeedR x y := ltH_iff
theorem FeedR.tr (a b c : EntF) : FeedR a b → FeedR b c → FeedR a c := fun h1 h2 => HitR.trans h1 h2
theorem swo_ltF : Go.Sort.SWO ltF where
  irrefl := fun _ => swo_ltH.irrefl _
  trans := fun _ _ _ h1 h2 => swo_ltH.trans _ _ _ h1 h2
  ntrans := fun _ _ _ h1 h2 => swo_ltH.ntrans _ _ _ h1 h2
def FApart (l : List EntF) : Prop := l.Pairwise (fun x y => x.addr ≠ y.addr)
theorem FApart.perm {l l' : List EntF} (h : FApart l) (hp : l.Perm l') : FApart l' := (hp.pairwise_iff (fun {_ _} hne => Ne.symm hne)).1 h
theorem addr_eq {x y : ByteArray} (h : x.data.toList = y.data.toList) : x = y := by
  have : x.data = y.data := Array.ext' h
  cases x; cases y; simpa using this
theorem FeedR.total {x y : EntF} (h : ¬ FeedR x y) (hne : x.addr ≠ y.addr) : FeedR y x := by
  rcases HitR.total h with h1 | ⟨_, h1⟩
  · exact h1
  · exact absurd (addr_eq h1) hne
theorem feed_sorted {l : List EntF} (h1 : FApart l) (h2 : l.Pairwise (fun x y => ¬ FeedR y x)) : l.Pairwise FeedR :=
  (h1.and h2).imp (fun {_ _} h => FeedR.total h.2 (fun e => h.1 e.symm))
theorem feed_unique : ∀ {l1 l2 : List EntF}, l1.Pairwise FeedR → l2.Pairwise FeedR → l1.Perm l2 → l1 = l2
  | [], l2, _, _, hp => by rw [List.nil_perm.1 hp]
  | x :: l1, [], _, _, hp => absurd hp.length_eq (by simp)
  | x :: l1, y :: l2, h1, h2, hp => by
    rw [List.pairwise_cons] at h1 h2
    have hx : x ∈ y :: l2 := hp.mem_iff.1 (by simp)
    have hy : y ∈ x :: l1 := hp.mem_iff.2 (by simp)
    have e : x = y := by
      rcases List.mem_cons.1 hx with h | h
      · exact h
      · rcases List.mem_cons.1 hy with h3 | h3
        · exact h3.symm
        · exact absurd (h2.1 x h) (fun h4 => HitR.asymm h4 (h1.1 y h3))
    subst e
    rw [feed_unique h1.2 h2.2 (List.Perm.cons_inv hp)]

/-! ### the error -/
def ctlE (x : EntF) : Bool := ctlL x.title.data.toList || ctlL x.addr.data.toList || ctlL x.summ.data.toList
def entE1 (l : List EntF) (k : Nat) : Int :=
  match l[k]? with
  | none => 0
  | some x => if ctlE x = true then 9 else if pathV x.addr = false then 3 else if x.day < 0 ∨ 84005 < x.day then 2 else if (l.take k).any (fun y => decide (y.addr = x.addr)) = true then 6 else 0
theorem entE1_at {l : List EntF} {k : Nat} {x : EntF} (h : l[k]? = some x) : entE1 l k = if ctlE x = true then 9 else if pathV x.addr = false then 3 else if x.day < 0 ∨ 84005 < x.day then 2 else if (l.take k).any (fun y => decide (y.addr = x.addr)) = true then 6 else 0 := by
  rw [entE1, h]
def entsE (l : List EntF) : Int := firstE (entE1 l) l.length 0
def feedE (title base : ByteArray) (day : Int) (l : List EntF) (most : Int) : Int :=
  if most < 0 ∨ 60 < most then 2 else if 60 < l.length then 4 else if (ctlL title.data.toList || ctlL base.data.toList) = true then 9 else if day < 0 ∨ 84005 < day then 2 else entsE l
theorem firstE_all {f : Nat → Int} {n : Nat} : ∀ {k : Nat}, firstE f (n - k) k = 0 → ∀ j, k ≤ j → j < n → f j = 0 := by
  intro k
  induction h : n - k generalizing k with
  | zero => intro _ j h1 h2; omega
  | succ m ih =>
    intro h0 j h1 h2
    rw [firstE] at h0
    by_cases hf : f k = 0
    · rw [if_pos hf] at h0
      rcases Nat.lt_or_ge k j with h3 | h3
      · exact ih (k := k + 1) (by omega) h0 j h3 h2
      · obtain rfl : k = j := by omega
        exact hf
    · rw [if_neg hf] at h0; exact absurd h0 hf
structure FineE (l : List EntF) : Prop where
  day : ∀ x ∈ l, 0 ≤ x.day ∧ x.day ≤ 84005
  apart : FApart l
theorem ents_fine {l : List EntF} (h : entsE l = 0) : FineE l := by
  have key := firstE_all (k := 0) (f := entE1 l) (n := l.length) h
  have at0 : ∀ (k : Nat) (x : EntF), l[k]? = some x → (0 ≤ x.day ∧ x.day ≤ 84005) ∧ (l.take k).any (fun y => decide (y.addr = x.addr)) = false := by
    intro k x hx
    have h0 := key k (Nat.zero_le _) (List.getElem?_eq_some_iff.1 hx).1
    rw [entE1_at hx] at h0
    split at h0
    · cases h0
    split at h0
    · cases h0
    split at h0
    · cases h0
    rename_i h3
    split at h0
    · cases h0
    rename_i h4
    exact ⟨by omega, by simpa using h4⟩
  refine ⟨fun x hx => ?_, ?_⟩
  · obtain ⟨k, hk⟩ := List.mem_iff_getElem?.1 hx
    exact (at0 k x hk).1
  · unfold FApart
    rw [List.pairwise_iff_getElem]
    intro i j hi hj hij e
    have h1 := (at0 j l[j] (List.getElem?_eq_getElem hj)).2
    rw [List.any_eq_false] at h1
    refine h1 l[i] ?_ (by simpa using e)
    exact List.mem_of_getElem? (i := i) (by rw [List.getElem?_take, if_pos hij]; exact List.getElem?_eq_getElem hi)

/-! ### the text -/
abbrev fk1 : ByteArray := ⟨#[60, 63, 120, 109, 108, 32, 118, 101, 114, 115, 105, 111, 110, 61, 34, 49, 46, 48, 34, 32, 101, 110, 99, 111, 100, 105, 110, 103, 61, 34, 117, 116, 102, 45, 56, 34, 63, 62, 10, 60, 102, 101, 101, 100, 62, 10, 60, 116, 105, 116, 108, 101, 62]⟩
abbrev fk2 : ByteArray := ⟨#[60, 47, 116, 105, 116, 108, 101, 62, 10, 60, 108, 105, 110, 107, 32, 104, 114, 101, 102, 61, 34]⟩
abbrev fk3 : ByteArray := ⟨#[47, 34, 47, 62, 10, 60, 117, 112, 100, 97, 116, 101, 100, 62]⟩
abbrev fk4 : ByteArray := ⟨#[60, 47, 117, 112, 100, 97, 116, 101, 100, 62, 10]⟩
abbrev fe1 : ByteArray := ⟨#[60, 101, 110, 116, 114, 121, 62, 60, 116, 105, 116, 108, 101, 62]⟩
abbrev fe2 : ByteArray := ⟨#[60, 47, 116, 105, 116, 108, 101, 62, 60, 108, 105, 110, 107, 32, 104, 114, 101, 102, 61, 34]⟩
abbrev fe3 : ByteArray := ⟨#[34, 47, 62, 60, 117, 112, 100, 97, 116, 101, 100, 62]⟩
abbrev fe4 : ByteArray := ⟨#[60, 47, 117, 112, 100, 97, 116, 101, 100, 62, 60, 115, 117, 109, 109, 97, 114, 121, 62]⟩
abbrev fe5 : ByteArray := ⟨#[60, 47, 115, 117, 109, 109, 97, 114, 121, 62, 60, 47, 101, 110, 116, 114, 121, 62, 10]⟩
abbrev fkz : ByteArray := ⟨#[60, 47, 102, 101, 101, 100, 62, 10]⟩
def escA (s : ByteArray) : ByteArray := ⟨(escL s.data.toList).toArray⟩
def headP (title base : ByteArray) (day : Nat) : List ByteArray := [fk1, escA title, fk2, escA base, fk3, dateS day, fk4]
def entP (base : ByteArray) (x : EntF) : List ByteArray := [fe1, escA x.title, fe2, escA (base ++ x.addr), fe3, dateS x.day.toNat, fe4, escA x.summ, fe5]
def catL (l : List ByteArray) : List UInt8 := l.flatMap (fun s => s.data.toList)
def feedL (title base : ByteArray) (day : Nat) (E : List EntF) : List UInt8 := catL (headP title base day) ++ E.flatMap (fun x => catL (entP base x)) ++ fkz.data.toList
theorem escA_size (s : ByteArray) : (escA s).size ≤ 6 * s.size := by
  show (escL s.data.toList).toArray.size ≤ _
  rw [List.size_toArray, ← size_toList]
  generalize s.data.toList = l
  induction l with
  | nil => simp [escL]
  | cons c r ih =>
    have := escB_le c
    rw [show escL (c :: r) = escB c ++ escL r from rfl, List.length_append, List.length_cons]
    omega
end Go.Proofs.YtnanogcppglapaaGreatDoor
