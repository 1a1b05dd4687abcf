/-
  The part of a content from a heading on: what page.Section and the law compute, with no program in sight.
-/
import Derived.Test.YtnoiipngingdoaaDoorEntries
import Derived.Lib.IndexMore
import Derived.Lib.ItoaNum
namespace Go.Proofs.YtnoiipngingdoaaDoor

/-- where a string is first found -/
def idxS (s p : ByteArray) : Int := Lib.index s.data.toList p.data.toList
theorem idxS_ge (s p : ByteArray) : -1 ≤ idxS s p := Lib.index_ge _ _
theorem idxS_room {s p : ByteArray} (h : 0 ≤ idxS s p) : idxS s p + p.size ≤ s.size := by
  have := Lib.index_room s.data.toList p.data.toList h
  rw [Array.length_toList, Array.length_toList] at this
  exact this
theorem idxS_cases (s p : ByteArray) : idxS s p = -1 ∨ ∃ k : Nat, idxS s p = (k : Int) ∧ k + p.size ≤ s.size := by
  have h1 := idxS_ge s p
  by_cases h : 0 ≤ idxS s p
  · obtain ⟨k, hk⟩ := Int.eq_ofNat_of_zero_le h
    have := idxS_room h
    exact Or.inr ⟨k, hk, by omega⟩
  · exact Or.inl (by omega)

/-- the beginning of a heading -/
def tagS (e : Entry) : ByteArray := (⟨#[60, 104]⟩ : ByteArray) ++ ⟨(Lib.itoa e.level).toArray⟩ ++ (⟨#[32, 105, 100, 61, 34]⟩ : ByteArray) ++ e.id ++ (⟨#[34, 62]⟩ : ByteArray)

/-- one entry has the id -/
def isId (id : ByteArray) (e : Entry) : Bool := e.id.toList == id.toList
def secAt (h : ByteArray) (x : Entry) (r : List Entry) : Option ByteArray :=
  if idxS h (tagS x) < 0 then none else
  match r.find? (fun y => decide (y.level ≤ x.level)) with
  | none => some (h.extract (idxS h (tagS x)).toNat h.size)
  | some y =>
    if idxS (h.extract ((idxS h (tagS x)).toNat + (tagS x).size) h.size) (tagS y) < 0 then none
    else some (h.extract (idxS h (tagS x)).toNat ((idxS h (tagS x)).toNat + (tagS x).size + (idxS (h.extract ((idxS h (tagS x)).toNat + (tagS x).size) h.size) (tagS y)).toNat))
def secO (h : ByteArray) (l : List Entry) (id : ByteArray) : Option ByteArray :=
  match l.dropWhile (fun e => !(isId id e)) with
  | [] => none
  | x :: r => secAt h x r
/-- as two results -/
def secR (o : Option ByteArray) : ByteArray × Bool := match o with
  | none => (⟨#[]⟩, false)
  | some z => (z, true)

theorem dropWhile_at {α : Type} {p : α → Bool} : ∀ {l : List α} {k : Nat} {x : α}, l[k]? = some x → p x = false → (∀ (j : Nat) (y : α), l[j]? = some y → j < k → p y = true) → l.dropWhile p = x :: l.drop (k + 1)
  | [], k, x, h, _, _ => by simp at h
  | a :: r, 0, x, h, hx, _ => by
    simp only [List.getElem?_cons_zero, Option.some.injEq] at h
    subst h
    rw [List.dropWhile_cons, hx]
    simp
  | a :: r, k + 1, x, h, hx, hb => by
    rw [List.dropWhile_cons, hb 0 a rfl (by omega)]
    simp only [if_true]
    exact dropWhile_at (by simpa using h) hx (fun j y hy hj => hb (j + 1) y hy (by omega))
theorem dropWhile_none {α : Type} {p : α → Bool} {l : List α} (h : ∀ (j : Nat) (y : α), l[j]? = some y → p y = true) : l.dropWhile p = [] := by
  induction l with
  | nil => rfl
  | cons a r ih =>
    rw [List.dropWhile_cons, h 0 a rfl]
    simp only [if_true]
    exact ih fun j y hy => h (j + 1) y hy
theorem find_drop {α : Type} {p : α → Bool} : ∀ {l : List α} {i k : Nat} {x : α}, l[k]? = some x → i ≤ k → p x = true → (∀ (j : Nat) (y : α), l[j]? = some y → i ≤ j → j < k → p y = false) → (l.drop i).find? p = some x
  | [], i, k, x, h, _, _, _ => by simp at h
  | a :: r, i + 1, k + 1, x, h, hi, hx, hb => by
    rw [List.drop_succ_cons]
    exact find_drop (by simpa using h) (by omega) hx (fun j y hy h1 h2 => hb (j + 1) y hy (by omega) (by omega))
  | a :: r, i + 1, 0, x, h, hi, hx, hb => absurd hi (by omega)
  | a :: r, 0, 0, x, h, _, hx, _ => by
    simp only [List.getElem?_cons_zero, Option.some.injEq] at h
    subst h
    rw [List.drop_zero, List.find?_cons_of_pos hx]
  | a :: r, 0, k + 1, x, h, _, hx, hb => by
    rw [List.drop_zero, List.find?_cons_of_neg (by rw [hb 0 a rfl (by omega) (by omega)]; simp)]
    have := find_drop (l := r) (i := 0) (k := k) (x := x) (p := p) (by simpa using h) (by omega) hx (fun j y hy h1 h2 => hb (j + 1) y hy (by omega) (by omega))
    rwa [List.drop_zero] at this
theorem find_drop_none {α : Type} {p : α → Bool} {l : List α} {i : Nat} (h : ∀ (j : Nat) (y : α), l[j]? = some y → i ≤ j → p y = false) : (l.drop i).find? p = none := by
  rw [List.find?_eq_none]
  intro x hx
  obtain ⟨j, hj⟩ := List.getElem?_of_mem hx
  rw [List.getElem?_drop] at hj
  rw [h (i + j) x hj (by omega)]
  simp

/-- the ids before a place are others -/
def NoId (id : ByteArray) (l : List Entry) (k : Nat) : Prop := ∀ (j : Nat) (e : Entry), l[j]? = some e → j < k → isId id e = false
theorem NoId.zero (id : ByteArray) (l : List Entry) : NoId id l 0 := fun j e _ h => absurd h (by omega)
theorem NoId.succ {id : ByteArray} {l : List Entry} {k : Nat} {x : Entry} (h : NoId id l k) (hx : l[k]? = some x) (hn : isId id x = false) : NoId id l (k + 1) := by
  intro j e he hj
  rcases Nat.lt_succ_iff_lt_or_eq.1 hj with h1 | rfl
  · exact h j e he h1
  · rw [hx] at he; cases he; exact hn
theorem secO_at {h id : ByteArray} {l : List Entry} {k : Nat} {x : Entry} (hn : NoId id l k) (hx : l[k]? = some x) (hi : isId id x = true) : secO h l id = secAt h x (l.drop (k + 1)) := by
  unfold secO
  rw [dropWhile_at (p := fun e => !(isId id e)) hx (by simp [hi]) (fun j y hy hj => by simp [hn j y hy hj])]
theorem secO_none {h id : ByteArray} {l : List Entry} (hn : NoId id l l.length) : secO h l id = none := by
  unfold secO
  rw [dropWhile_none (p := fun e => !(isId id e)) (fun j y hy => by simp [hn j y hy (List.getElem?_eq_some_iff.1 hy).1])]
/-- the levels from a place on are deeper -/
def Deeper (v : Int) (l : List Entry) (i k : Nat) : Prop := ∀ (j : Nat) (e : Entry), l[j]? = some e → i ≤ j → j < k → v < e.level
theorem Deeper.start (v : Int) (l : List Entry) (i : Nat) : Deeper v l i i := fun j e _ h1 h2 => absurd h2 (by omega)
theorem Deeper.succ {v : Int} {l : List Entry} {i k : Nat} {x : Entry} (h : Deeper v l i k) (hx : l[k]? = some x) (hn : v < x.level) : Deeper v l i (k + 1) := by
  intro j e he h1 hj
  rcases Nat.lt_succ_iff_lt_or_eq.1 hj with h2 | rfl
  · exact h j e he h1 h2
  · rw [hx] at he; cases he; exact hn
theorem secAt_neg {h : ByteArray} {x : Entry} {r : List Entry} (hi : idxS h (tagS x) = -1) : secAt h x r = none := by unfold secAt; rw [hi]; rfl
theorem secAt_all {h : ByteArray} {x : Entry} {l : List Entry} {i f : Nat} (hi : idxS h (tagS x) = (f : Int)) (hd : Deeper x.level l i l.length) : secAt h x (l.drop i) = some (h.extract f h.size) := by
  unfold secAt
  rw [hi, if_neg (by omega), find_drop_none (fun j y hy hj => by
    have := hd j y hy hj (List.getElem?_eq_some_iff.1 hy).1
    rw [decide_eq_false_iff_not]; omega)]
  rfl
theorem secAt_to {h : ByteArray} {x y : Entry} {l : List Entry} {i k f : Nat} (hi : idxS h (tagS x) = (f : Int)) (hd : Deeper x.level l i k) (hik : i ≤ k) (hy : l[k]? = some y) (hl : y.level ≤ x.level) :
    secAt h x (l.drop i) = if idxS (h.extract (f + (tagS x).size) h.size) (tagS y) < 0 then none else some (h.extract f (f + (tagS x).size + (idxS (h.extract (f + (tagS x).size) h.size) (tagS y)).toNat)) := by
  unfold secAt
  rw [hi, if_neg (by omega), find_drop hy hik (by simpa using hl) (fun j z hz h1 h2 => by
    have := hd j z hz h1 h2
    rw [decide_eq_false_iff_not]; omega)]
  rfl

end Go.Proofs.YtnoiipngingdoaaDoor
