/-
  The plain string of a line: page.plainLine, and that a valid heading's is that of mastref1.PlainOf.
-/
import Derived.Test.YtphmhhonbkcajaaDoorPlain
namespace Go.Proofs.YtphmhhonbkcajaaDoor
open Go.RowKit Go.Deep

/-- what stands ahead of a node's Kids in a line -/
def headL (k : Int) (t : List UInt8) : List UInt8 := if k = 11 ∨ k = 16 ∨ k = 18 then t else if k = 12 ∨ k = 13 then [32] else []
def lineL : List Node → List UInt8
  | [] => []
  | .mk k _ t _ _ ks :: r => headL k t.data.toList ++ lineL ks ++ lineL r
def lineN (n : Node) : List UInt8 := headL n.kind n.text.data.toList ++ lineL n.kids
theorem lineL_cons (n : Node) (r : List Node) : lineL (n :: r) = lineN n ++ lineL r := by cases n; rw [lineL]; rfl
theorem lineL_nil : lineL [] = [] := by rw [lineL]
theorem lineL_append (a b : List Node) : lineL (a ++ b) = lineL a ++ lineL b := by
  induction a with
  | nil => rw [lineL_nil]; rfl
  | cons n r ih => rw [List.cons_append, lineL_cons, lineL_cons, ih, List.append_assoc]
theorem lineL_take {l : List Node} {k : Nat} {n : Node} (h : l[k]? = some n) : lineL (l.take (k + 1)) = lineL (l.take k) ++ lineN n := by
  obtain ⟨hk, rfl⟩ := List.getElem?_eq_some_iff.1 h
  rw [List.take_succ_eq_append_getElem hk, lineL_append, lineL_cons, lineL_nil, List.append_nil]
theorem headL_le (k : Int) (t : List UInt8) : (headL k t).length ≤ t.length + 1 := by
  unfold headL
  split
  · omega
  · split <;> simp
theorem lineL_len : ∀ (N : Nat) (l : List Node), SizeOf.sizeOf l ≤ N → (lineL l).length ≤ weight l
  | 0, l, h => by cases l <;> simp at h
  | N + 1, [], _ => by rw [lineL_nil]; simp
  | N + 1, n :: r, h => by
    rw [lineL_cons, weight_cons, List.length_append]
    have h1 := n.kids_lt
    simp only [List.cons.sizeOf_spec] at h
    have a := lineL_len N n.kids (by omega)
    have b := lineL_len N r (by omega)
    have c := headL_le n.kind n.text.data.toList
    have e : n.text.data.toList.length = n.text.size := size_toList _
    simp only [lineN, List.length_append]
    omega
theorem line_len (l : List Node) : (lineL l).length ≤ weight l := lineL_len _ l (Nat.le_refl _)

/-- kinds that hold a line -/
def InlP (p : Int) : Prop := p = 1 ∨ p = 2 ∨ p = 10 ∨ p = 14 ∨ p = 15 ∨ p = 17
theorem permitted_inl {k p : Int} (hp : InlP p) (h : permittedB k p = true) : 11 ≤ k ∧ k ≤ 18 := by
  unfold InlP at hp
  unfold permittedB isInlineB at h
  rw [if_neg (by omega), if_neg (by omega), if_neg (by omega), if_neg (by omega), if_pos hp] at h
  simpa using h
theorem nodesErr_line : ∀ (N : Nat) (l : List Node) (p : Int) (i : Nat), SizeOf.sizeOf l ≤ N → InlP p → nodesErr l p = 0 → lineL l = plainL i l
  | 0, l, p, i, hN, _, _ => by cases l <;> simp at hN
  | N + 1, [], p, i, _, _, _ => by rw [lineL_nil, plainL_nil]
  | N + 1, n :: r, p, i, hN, hp, h => by
    rw [nodesErr_cons] at h
    by_cases h1 : nodeErr n p = 0
    · rw [if_pos h1] at h
      by_cases h2 : nodesErr n.kids n.kind = 0
      · rw [if_pos h2] at h
        have hk := n.kids_lt
        simp only [List.cons.sizeOf_spec] at hN
        have hper : permittedB n.kind p = true := by
          cases hc : permittedB n.kind p with
          | true => rfl
          | false => unfold nodeErr at h1; rw [if_pos hc] at h1; omega
        obtain ⟨k1, k2⟩ := permitted_inl hp hper
        have hun : unusedB n = false := by
          cases hc : unusedB n with
          | false => rfl
          | true =>
            unfold nodeErr at h1
            rw [if_neg (by rw [hper]; simp)] at h1
            by_cases h3 : levelBad n = true
            · rw [if_pos h3] at h1; omega
            · rw [if_neg h3, if_pos hc] at h1; omega
        have hkids : lineL n.kids = plainL 0 n.kids := by
          by_cases hq : n.kind = 14 ∨ n.kind = 15 ∨ n.kind = 17
          · exact nodesErr_line N n.kids n.kind 0 (by omega) (by unfold InlP; omega) h2
          · have : n.kids = [] := by
              simp only [unusedB, Bool.or_eq_false_iff, Bool.and_eq_false_iff] at hun
              have := hun.2
              rcases this with h4 | h4
              · simp [usesK] at h4; omega
              · simp at h4; exact h4
            rw [this, lineL_nil, plainL_nil]
        rw [lineL_cons, plainL_cons, nodesErr_line N r p (i + 1) (by omega) hp h]
        unfold lineN plainN
        rw [hkids]
        have hh : headL n.kind n.text.data.toList = headB i n.kind n.text.data.toList := by
          unfold headL headB
          by_cases q1 : n.kind = 11 ∨ n.kind = 16 ∨ n.kind = 18
          · rw [if_pos q1, if_pos (by omega)]
          · rw [if_neg q1, if_neg (show ¬ (n.kind = 11 ∨ n.kind = 16 ∨ n.kind = 18 ∨ n.kind = 3) by omega)]
            by_cases q2 : n.kind = 12 ∨ n.kind = 13
            · rw [if_pos q2, if_pos q2]
            · rw [if_neg q2, if_neg q2, if_neg (by omega)]
        have ht : tailB n.kind = [] := by unfold tailB; rw [if_neg (by omega)]
        rw [hh, ht, List.append_nil]
      · rw [if_neg h2] at h
        exact absurd h h2
    · rw [if_neg h1] at h
      exact absurd h h1
/-- a valid heading's line; what the law's guard asks -/
theorem heading_line {n : Node} (hk : n.kind = 1) (h : docErr [n] = 0 ∨ docErr [.mk 2 0 ⟨#[]⟩ ⟨#[]⟩ ⟨#[]⟩ [n]] = 0) : lineL n.kids = plainL 0 n.kids := by
  have key : nodesErr [n] 0 = 0 → lineL n.kids = plainL 0 n.kids := fun h => by
    rw [nodesErr_cons] at h
    by_cases h1 : nodeErr n 0 = 0
    · rw [if_pos h1] at h
      by_cases h2 : nodesErr n.kids n.kind = 0
      · exact nodesErr_line _ n.kids n.kind 0 (Nat.le_refl _) (by unfold InlP; omega) h2
      · rw [if_neg h2] at h; exact absurd h h2
    · rw [if_neg h1] at h; exact absurd h h1
  rcases h with h | h
  · exact key (by
      unfold docErr at h
      split at h
      · omega
      · split at h
        · omega
        · exact h)
  · exfalso
    unfold docErr at h
    split at h
    · omega
    · split at h
      · omega
      · rw [nodesErr_cons] at h
        split at h
        · split at h
          · rename_i h2
            simp only [Node.kids, Node.kind] at h2
            rw [nodesErr_cons] at h2
            have : nodeErr n 2 = 10 := by
              unfold nodeErr
              rw [if_pos]
              rw [hk]; decide
            rw [this] at h2
            simp at h2
          · rename_i h2; exact h2 h
        · rename_i h1; exact h1 h

end Go.Proofs.YtphmhhonbkcajaaDoor
