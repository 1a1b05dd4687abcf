/-
  When a document is valid, as plain functions (mark.Check, mastref1.DocError), and plain facts on them.
-/
import Derived.Test.YtphmhhonbkcajaaDoorCount
namespace Go.Proofs.YtphmhhonbkcajaaDoor
open Go.RowKit Go.Deep

def isBlockB (k : Int) : Bool := decide (1 ≤ k ∧ k ≤ 10)
def isInlineB (k : Int) : Bool := decide (11 ≤ k ∧ k ≤ 18)

/-- nested too deep -/
def deepB : List Node → Nat → Nat → Bool
  | [], _, _ => false
  | .mk k _ _ _ _ ks :: r, b, i =>
    (decide (12 < (if isInlineB k = true then b else b + 1)) || decide (12 < (if isInlineB k = true then i + 1 else i)) ||
      deepB ks (if isInlineB k = true then b else b + 1) (if isInlineB k = true then i + 1 else i)) || deepB r b i

theorem deepB_cons (n : Node) (r : List Node) (b i : Nat) : deepB (n :: r) b i =
    ((decide (12 < (if isInlineB n.kind = true then b else b + 1)) || decide (12 < (if isInlineB n.kind = true then i + 1 else i)) ||
      deepB n.kids (if isInlineB n.kind = true then b else b + 1) (if isInlineB n.kind = true then i + 1 else i)) || deepB r b i) := by
  cases n; rw [deepB]; rfl

theorem deepB_at {l : List Node} {k : Nat} {n : Node} (b i : Nat) (h : l[k]? = some n) : deepB (l.drop k) b i =
    ((decide (12 < (if isInlineB n.kind = true then b else b + 1)) || decide (12 < (if isInlineB n.kind = true then i + 1 else i)) ||
      deepB n.kids (if isInlineB n.kind = true then b else b + 1) (if isInlineB n.kind = true then i + 1 else i)) || deepB (l.drop (k + 1)) b i) := by
  obtain ⟨hk, rfl⟩ := List.getElem?_eq_some_iff.1 h
  rw [List.drop_eq_getElem_cons hk, deepB_cons]

/-- may a kind lie in a node of a kind (0: at the top) -/
def permittedB (kind parent : Int) : Bool :=
  if parent = 0 ∨ parent = 4 ∨ parent = 6 then isBlockB kind && decide (kind ≠ 6) && decide (kind ≠ 9) && decide (kind ≠ 10)
  else if parent = 5 then decide (kind = 6)
  else if parent = 8 then decide (kind = 9)
  else if parent = 9 then decide (kind = 10)
  else if parent = 1 ∨ parent = 2 ∨ parent = 10 ∨ parent = 14 ∨ parent = 15 ∨ parent = 17 then isInlineB kind
  else false

theorem permitted_range {kind parent : Int} (h : permittedB kind parent = true) : 1 ≤ kind ∧ kind ≤ 18 := by
  unfold permittedB at h
  simp only [isBlockB, isInlineB] at h
  split at h
  · simp at h; omega
  · split at h
    · simp at h; omega
    · split at h
      · simp at h; omega
      · split at h
        · simp at h; omega
        · split at h
          · simp at h; omega
          · cases h

def levelBad (n : Node) : Bool := decide (n.kind = 1 ∧ (n.level < 1 ∨ 6 < n.level)) || decide (n.kind = 5 ∧ (n.level < -1 ∨ 9999 < n.level))

def usesL (k : Int) : Bool := decide (k = 1 ∨ k = 5)
def usesT (k : Int) : Bool := decide (k = 3 ∨ k = 11 ∨ k = 16 ∨ k = 18)
def usesD (k : Int) : Bool := decide (k = 3 ∨ k = 17 ∨ k = 18)
def usesN (k : Int) : Bool := decide (k = 17 ∨ k = 18)
def usesK (k : Int) : Bool := decide (k ≠ 3 ∧ k ≠ 7 ∧ k ≠ 11 ∧ k ≠ 12 ∧ k ≠ 13 ∧ k ≠ 16 ∧ k ≠ 18)

/-- a field that the kind does not use is not zero -/
def unusedB (n : Node) : Bool :=
  (!usesL n.kind && decide (n.level ≠ 0)) || (!usesT n.kind && !n.text.toList.isEmpty) || (!usesD n.kind && !n.dest.toList.isEmpty) || (!usesN n.kind && !n.title.toList.isEmpty) || (!usesK n.kind && decide (0 < n.kids.length))

/-- a byte below 32 but the permitted ones -/
def ctlB (tab feed : Bool) (s : List UInt8) : Bool := s.any fun c => decide (c.toNat < 32) && !(tab && c == 9) && !(feed && c == 10)

theorem ctlB_no {tab feed : Bool} {s : List UInt8} {i : Nat} (h : ctlB tab feed (s.drop i) = ctlB tab feed s) (hi : s.length ≤ i) : ctlB tab feed s = false := by
  rw [← h, List.drop_eq_nil_of_le hi]; rfl

def byteBadB (n : Node) : Bool := ctlB true (decide (n.kind = 3)) n.text.data.toList || ctlB (decide (n.kind = 3)) false n.dest.data.toList || ctlB true false n.title.data.toList

/-- the error of a node without its Kids -/
def nodeErr (n : Node) (parent : Int) : Int :=
  if permittedB n.kind parent = false then 10 else if levelBad n = true then 2 else if unusedB n = true then 1 else if byteBadB n = true then 9 else 0

/-- the first error of nodes -/
def nodesErr : List Node → Int → Int
  | [], _ => 0
  | .mk k lv t d ti ks :: r, p => if nodeErr (.mk k lv t d ti ks) p = 0 then (if nodesErr ks k = 0 then nodesErr r p else nodesErr ks k) else nodeErr (.mk k lv t d ti ks) p

theorem nodesErr_cons (n : Node) (r : List Node) (p : Int) : nodesErr (n :: r) p = if nodeErr n p = 0 then (if nodesErr n.kids n.kind = 0 then nodesErr r p else nodesErr n.kids n.kind) else nodeErr n p := by
  cases n; rw [nodesErr]; rfl

theorem nodesErr_at {l : List Node} {k : Nat} {n : Node} (p : Int) (h : l[k]? = some n) : nodesErr (l.drop k) p = if nodeErr n p = 0 then (if nodesErr n.kids n.kind = 0 then nodesErr (l.drop (k + 1)) p else nodesErr n.kids n.kind) else nodeErr n p := by
  obtain ⟨hk, rfl⟩ := List.getElem?_eq_some_iff.1 h
  rw [List.drop_eq_getElem_cons hk, nodesErr_cons]

/-- Check's error -/
def docErr (l : List Node) : Int := if 4000 < total l then 4 else if deepB l 0 0 = true then 13 else nodesErr l 0

/-- levels that a valid document can have -/
def Leveled : List Node → Prop
  | [] => True
  | .mk k lv _ _ _ ks :: r => (-1 ≤ lv ∧ lv ≤ 9999) ∧ (k = 1 → 1 ≤ lv ∧ lv ≤ 6) ∧ Leveled ks ∧ Leveled r

theorem Leveled.at_ : ∀ {l : List Node} (_ : Leveled l) {k : Nat} {n : Node}, l[k]? = some n → (-1 ≤ n.level ∧ n.level ≤ 9999) ∧ (n.kind = 1 → 1 ≤ n.level ∧ n.level ≤ 6) ∧ Leveled n.kids
  | .mk _ _ _ _ _ _ :: _, h, 0, n, hn => by
    simp only [Leveled] at h
    simp only [List.getElem?_cons_zero, Option.some.injEq] at hn
    subst hn
    exact ⟨h.1, h.2.1, h.2.2.1⟩
  | .mk _ _ _ _ _ _ :: r, h, k + 1, n, hn => by
    simp only [Leveled] at h
    exact h.2.2.2.at_ (by simpa using hn)

theorem nodeErr_zero {n : Node} {p : Int} (h : nodeErr n p = 0) : (-1 ≤ n.level ∧ n.level ≤ 9999) ∧ (n.kind = 1 → 1 ≤ n.level ∧ n.level ≤ 6) := by
  unfold nodeErr at h
  by_cases h1 : permittedB n.kind p = false
  · rw [if_pos h1] at h; omega
  · rw [if_neg h1] at h
    by_cases h2 : levelBad n = true
    · rw [if_pos h2] at h; omega
    · rw [if_neg h2] at h
      by_cases h3 : unusedB n = true
      · rw [if_pos h3] at h; omega
      · simp only [levelBad, Bool.or_eq_true, decide_eq_true_eq, not_or] at h2
        simp only [unusedB, usesL, Bool.or_eq_true, not_or, Bool.and_eq_true, Bool.not_eq_true', decide_eq_false_iff_not, decide_eq_true_eq] at h3
        obtain ⟨a, b⟩ := h2
        have c := h3.1.1.1.1
        by_cases k1 : n.kind = 1
        · omega
        · by_cases k5 : n.kind = 5
          · omega
          · have : n.level = 0 := by
              by_cases z : n.level = 0
              · exact z
              · exact absurd ⟨by omega, z⟩ c
            omega

theorem nodesErr_zero : ∀ (N : Nat) (l : List Node) (p : Int), SizeOf.sizeOf l ≤ N → nodesErr l p = 0 → Leveled l
  | 0, l, p, hN, h => by cases l <;> simp at hN
  | N + 1, [], p, _, _ => by simp only [Leveled]
  | N + 1, .mk k lv t d ti ks :: r, p, hN, h => by
    rw [nodesErr_cons] at h
    by_cases h1 : nodeErr (.mk k lv t d ti ks) p = 0
    · rw [if_pos h1] at h
      by_cases h2 : nodesErr ks k = 0
      · rw [if_pos (show nodesErr (Node.mk k lv t d ti ks).kids (Node.mk k lv t d ti ks).kind = 0 from h2)] at h
        obtain ⟨a, b⟩ := nodeErr_zero h1
        simp only [List.cons.sizeOf_spec, Node.mk.sizeOf_spec] at hN
        simp only [Leveled]
        exact ⟨a, b, nodesErr_zero N ks k (by omega) h2, nodesErr_zero N r p (by omega) h⟩
      · rw [if_neg (show ¬ nodesErr (Node.mk k lv t d ti ks).kids (Node.mk k lv t d ti ks).kind = 0 from h2)] at h
        exact absurd h h2
    · rw [if_neg h1] at h
      exact absurd h h1

theorem docErr_zero {l : List Node} (h : docErr l = 0) : total l ≤ 4000 ∧ Leveled l := by
  unfold docErr at h
  by_cases h1 : 4000 < total l
  · rw [if_pos h1] at h; omega
  · rw [if_neg h1] at h
    by_cases h2 : deepB l 0 0 = true
    · rw [if_pos h2] at h; omega
    · rw [if_neg h2] at h
      exact ⟨by omega, nodesErr_zero _ l 0 (Nat.le_refl _) h⟩

end Go.Proofs.YtphmhhonbkcajaaDoor
