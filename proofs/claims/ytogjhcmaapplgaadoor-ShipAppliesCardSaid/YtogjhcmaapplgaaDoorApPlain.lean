/-
  A step applied to outputs, plainly.
-/
import Derived.Test.YtogjhcmaapplgaaDoorEvPlain
import Derived.Test.YtogjhcmaapplgaaDoorStrRange
namespace Go.Proofs.YtogjhcmaapplgaaDoor
open Go.RowKit Go.Deep

def pathL (x : OutV) : List UInt8 := x.path.data.toList
def bodyL (x : OutV) : List UInt8 := x.body.data.toList
def Rises (l : List OutV) : Prop := l.Pairwise (fun x y => pathL x < pathL y)
def Parted (l : List OutV) : Prop := l.Pairwise (fun x y => pathL x ≠ pathL y)
theorem outV_ext {x y : OutV} (h1 : pathL x = pathL y) (h2 : bodyL x = bodyL y) : x = y := by
  obtain ⟨a, b⟩ := x
  obtain ⟨c, d⟩ := y
  have e1 : a = c := Go.WideShapes.bytes_inj h1
  have e2 : b = d := Go.WideShapes.bytes_inj h2
  rw [e1, e2]
/-- two rising lists with the same members are one -/
theorem rise_unique : ∀ {l1 l2 : List OutV}, Rises l1 → Rises l2 → (∀ x, x ∈ l1 ↔ x ∈ l2) → l1 = l2
  | [], [], _, _, _ => rfl
  | [], b :: s, _, _, h => by have := (h b).2 (by simp); simp at this
  | a :: r, [], _, _, h => by have := (h a).1 (by simp); simp at this
  | a :: r, b :: s, h1, h2, h => by
    obtain ⟨a1, a2⟩ := List.pairwise_cons.1 h1
    obtain ⟨b1, b2⟩ := List.pairwise_cons.1 h2
    have hab : a = b := by
      rcases List.mem_cons.1 ((h a).1 (by simp)) with e | ha
      · exact e
      · rcases List.mem_cons.1 ((h b).2 (by simp)) with e | hb
        · exact e.symm
        · exact absurd (List.lt_trans (b1 a ha) (a1 b hb)) (List.lt_irrefl _)
    subst hab
    rw [rise_unique a2 b2 (fun p => ⟨fun hp => by
      rcases List.mem_cons.1 ((h p).1 (by simp [hp])) with e | hp'
      · have := a1 p hp
        rw [e] at this
        exact absurd this (List.lt_irrefl _)
      · exact hp', fun hp => by
      rcases List.mem_cons.1 ((h p).2 (by simp [hp])) with e | hp'
      · have := b1 p hp
        rw [e] at this
        exact absurd this (List.lt_irrefl _)
      · exact hp'⟩)]
/-- parted and in no falling order: rising -/
theorem rises_of {l : List OutV} (h1 : Parted l) (h2 : l.Pairwise (fun x y => ¬ pathL y < pathL x)) : Rises l := by
  have h3 := h1.and h2
  refine h3.imp (fun {a b} hab => ?_)
  rcases List.le_total (pathL a) (pathL b) with h | h
  · exact Std.lt_of_le_of_ne h hab.1
  · exact absurd (Std.lt_of_le_of_ne h (Ne.symm hab.1)) hab.2
theorem Parted.perm {l l' : List OutV} (h : Parted l) (hp : l.Perm l') : Parted l' := (hp.pairwise_iff (fun {_ _} hne => Ne.symm hne)).1 h

/-- what a range has met so far -/
structure Coll (f : List UInt8 → Option (List UInt8)) (left : List UInt8 → Bool) (L : List OutV) : Prop where
  val : ∀ x ∈ L, f (pathL x) = some (bodyL x) ∧ left (pathL x) = false
  one : Parted L
  all : ∀ s, f s ≠ none → left s = false → ∃ x ∈ L, pathL x = s
theorem Coll.start (f : List UInt8 → Option (List UInt8)) : Coll f (fun s => (f s).isSome) [] :=
  ⟨(fun x h => by cases h), List.Pairwise.nil, (fun s h1 h2 => by
    cases hf : f s with
    | none => exact absurd hf h1
    | some a => rw [hf] at h2; cases h2)⟩
theorem Coll.step {f : List UInt8 → Option (List UInt8)} {left : List UInt8 → Bool} {L : List OutV} (h : Coll f left L) {x c : ByteArray} (hl : left x.data.toList = true) (hf : f x.data.toList = some c.data.toList) : Coll f (fun s => left s && !(s == x.data.toList)) (L ++ [⟨x, c⟩]) := by
  refine ⟨fun y hy => ?_, ?_, fun s h1 h2 => ?_⟩
  · rcases List.mem_append.1 hy with h1 | h1
    · obtain ⟨h2, h3⟩ := h.val y h1
      exact ⟨h2, by rw [h3]; rfl⟩
    · simp only [List.mem_singleton] at h1
      subst h1
      exact ⟨hf, by simp [pathL]⟩
  · unfold Parted
    rw [List.pairwise_append]
    refine ⟨h.one, by simp, fun y hy z hz => ?_⟩
    simp only [List.mem_singleton] at hz
    subst hz
    intro he
    have h3 := (h.val y hy).2
    rw [he] at h3
    rw [show pathL ⟨x, c⟩ = x.data.toList from rfl, hl] at h3
    cases h3
  · by_cases hs : s = x.data.toList
    · exact ⟨⟨x, c⟩, by simp, hs.symm⟩
    · have h3 : (s == x.data.toList) = false := beq_eq_false_iff_ne.2 hs
      simp only [h3, Bool.not_false, Bool.and_true] at h2
      obtain ⟨y, hy, hy2⟩ := h.all s h1 h2
      exact ⟨y, List.mem_append_left _ hy, hy2⟩
theorem Coll.done {f : List UInt8 → Option (List UInt8)} {left : List UInt8 → Bool} {L : List OutV} (h : Coll f left L) (hl : ∀ s, left s = false) (x : OutV) : x ∈ L ↔ f (pathL x) = some (bodyL x) := by
  constructor
  · exact fun hx => (h.val x hx).1
  · intro hx
    obtain ⟨y, hy, hy2⟩ := h.all (pathL x) (by rw [hx]; simp) (hl _)
    have h3 := (h.val y hy).1
    rw [hy2, hx] at h3
    rw [outV_ext hy2.symm (Option.some.inj h3)]
    exact hy

/-- the map behind all stores, behind all deletions -/
def putAll (f : List UInt8 → Option (List UInt8)) (l : List OutV) : List UInt8 → Option (List UInt8) := l.foldl (fun g o => putF g (pathL o) (bodyL o)) f
def delAll (f : List UInt8 → Option (List UInt8)) (l : List OutV) : List UInt8 → Option (List UInt8) := l.foldl (fun g o => delF g (pathL o)) f
theorem putAll_take {f : List UInt8 → Option (List UInt8)} {l : List OutV} {j : Nat} {o : OutV} (h : l[j]? = some o) : putAll f (l.take (j + 1)) = putF (putAll f (l.take j)) (pathL o) (bodyL o) := by
  obtain ⟨hj, rfl⟩ := List.getElem?_eq_some_iff.1 h
  rw [putAll, List.take_succ_eq_append_getElem hj, List.foldl_append]; rfl
theorem delAll_take {f : List UInt8 → Option (List UInt8)} {l : List OutV} {j : Nat} {o : OutV} (h : l[j]? = some o) : delAll f (l.take (j + 1)) = delF (delAll f (l.take j)) (pathL o) := by
  obtain ⟨hj, rfl⟩ := List.getElem?_eq_some_iff.1 h
  rw [delAll, List.take_succ_eq_append_getElem hj, List.foldl_append]; rfl
theorem delAll_eq (f : List UInt8 → Option (List UInt8)) : ∀ (l : List OutV) (s : List UInt8), delAll f l s = if l.any (fun o => pathL o == s) then none else f s := by
  intro l
  induction l generalizing f with
  | nil => intro s; rfl
  | cons a r ih =>
    intro s
    rw [delAll, List.foldl_cons]
    have h1 := ih (delF f (pathL a)) s
    rw [delAll] at h1
    rw [h1, List.any_cons]
    by_cases h2 : r.any (fun o => pathL o == s) = true
    · rw [if_pos h2, h2, Bool.or_true, if_pos rfl]
    · rw [if_neg h2]
      have h3 : r.any (fun o => pathL o == s) = false := by simpa using h2
      rw [h3, Bool.or_false]
      by_cases h4 : s = pathL a
      · subst h4; simp [delF]
      · have h5 : (pathL a == s) = false := beq_eq_false_iff_ne.2 (fun e => h4 e.symm)
        rw [h5, delF, if_neg h4]; rfl
theorem putAll_eq (f : List UInt8 → Option (List UInt8)) : ∀ (l : List OutV), Parted l → ∀ s, putAll f l s = match bodyP l s with | some b => some b | none => f s := by
  intro l
  induction l generalizing f with
  | nil => intro _ s; rfl
  | cons a r ih =>
    intro hp s
    obtain ⟨h1, h2⟩ := List.pairwise_cons.1 hp
    rw [putAll, List.foldl_cons]
    have h3 := ih (putF f (pathL a) (bodyL a)) h2 s
    rw [putAll] at h3
    rw [h3, show bodyP (a :: r) s = ((a :: r).find? (fun o => o.path.data.toList == s)).map (·.body.data.toList) from rfl, List.find?_cons]
    by_cases h4 : s = pathL a
    · subst h4
      have h5 : bodyP r (pathL a) = none := by
        rw [bodyP, show r.find? (fun o => o.path.data.toList == pathL a) = none from List.find?_eq_none.2 (fun x hx hb => h1 x hx (eq_of_beq hb).symm)]; rfl
      rw [h5]
      have h6 : (a.path.data.toList == pathL a) = true := by simp [pathL]
      rw [h6]
      simp [putF_same, bodyL]
    · have h5 : (a.path.data.toList == s) = false := beq_eq_false_iff_ne.2 (fun e => h4 e.symm)
      rw [h5, putF_ne _ _ h4]
      rfl

end Go.Proofs.YtogjhcmaapplgaaDoor
