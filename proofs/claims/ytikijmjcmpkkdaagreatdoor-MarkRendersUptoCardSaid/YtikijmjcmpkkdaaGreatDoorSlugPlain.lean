/-
  Slugs as plain functions: the program's way and the reference's way come to one result.
-/
import Derived.Test.YtikijmjcmpkkdaaGreatDoorRefLower
import Derived.Lib.TrimByte
namespace Go.Proofs.YtikijmjcmpkkdaaGreatDoor
open Go.RowKit Go.Deep

/-- a byte that stays in a slug -/
def goodB (c : UInt8) : Bool := decide (97 ≤ c.toNat ∧ c.toNat ≤ 122) || decide (48 ≤ c.toNat ∧ c.toNat ≤ 57) || decide (128 ≤ c.toNat)
theorem good_ne {c : UInt8} (h : goodB c = true) : c ≠ 45 := by
  rintro rfl
  revert h
  decide

def endsD (l : List UInt8) : Bool := decide (l.getLast? = some 45)
theorem hasSuffix_one (l : List UInt8) : Lib.hasSuffix l [45] = endsD l := by
  unfold Lib.hasSuffix endsD
  rw [Bool.eq_iff_iff, List.isSuffixOf_iff_suffix, decide_eq_true_iff]
  constructor
  · rintro ⟨t, rfl⟩
    simp
  · intro h
    rw [List.getLast?_eq_some_iff] at h
    obtain ⟨t, rfl⟩ := h
    exact ⟨t, rfl⟩

/-- the program's round -/
def slugStep (o : List UInt8) (c : UInt8) : List UInt8 := if goodB (lowerB c) = true then o ++ [lowerB c] else if o = [] ∨ endsD o = true then o else o ++ [45]
/-- the reference's round -/
def refStep (o : List UInt8) (c : UInt8) : List UInt8 := if goodB (lowerB c) = true then o ++ [lowerB c] else if endsD o = true then o else o ++ [45]
def slugF (l : List UInt8) : List UInt8 := l.foldl slugStep []
def refF (l : List UInt8) : List UInt8 := l.foldl refStep []
def slugEnd (o : List UInt8) : List UInt8 := if endsD o = true then o.dropLast else o

theorem slugF_take {l : List UInt8} {k : Nat} {c : UInt8} (h : l[k]? = some c) : slugF (l.take (k + 1)) = slugStep (slugF (l.take k)) c := by
  obtain ⟨hk, rfl⟩ := List.getElem?_eq_some_iff.1 h
  rw [List.take_succ_eq_append_getElem hk, slugF, List.foldl_append]
  rfl
theorem refF_take {l : List UInt8} {k : Nat} {c : UInt8} (h : l[k]? = some c) : refF (l.take (k + 1)) = refStep (refF (l.take k)) c := by
  obtain ⟨hk, rfl⟩ := List.getElem?_eq_some_iff.1 h
  rw [List.take_succ_eq_append_getElem hk, refF, List.foldl_append]
  rfl

/-- what the two ways hold at every round -/
def SlugInv (M R : List UInt8) : Prop := ∃ (P : List UInt8) (dash lead : Bool), M = P ++ (if dash = true then [45] else []) ∧ R = (if lead = true then [45] else []) ++ M ∧ (dash = true → P ≠ []) ∧ (∀ x, P.getLast? = some x → x ≠ 45) ∧ (∀ x, P.head? = some x → x ≠ 45)

theorem ends_append_one (l : List UInt8) (x : UInt8) : endsD (l ++ [x]) = decide (x = 45) := by simp [endsD]

theorem slug_step {M R : List UInt8} (c : UInt8) (h : SlugInv M R) : SlugInv (slugStep M c) (refStep R c) := by
  obtain ⟨P, dash, lead, rfl, rfl, hd, hl, hh⟩ := h
  by_cases hg : goodB (lowerB c) = true
  · have hne := good_ne hg
    refine ⟨P ++ (if dash = true then [45] else []) ++ [lowerB c], false, lead, ?_, ?_, fun h => by simp at h, fun x hx => ?_, fun x hx => ?_⟩
    · rw [slugStep, if_pos hg]; simp
    · rw [refStep, if_pos hg, slugStep, if_pos hg]; simp [List.append_assoc]
    · simp at hx; subst hx; exact hne
    · cases P with
      | nil =>
        cases dash with
        | true => exact absurd rfl (hd rfl)
        | false => simp at hx; subst hx; exact hne
      | cons a r => simp at hx; exact hh x (by simp [hx])
  · cases P with
    | nil =>
      cases dash with
      | true => exact absurd rfl (hd rfl)
      | false =>
        cases lead with
        | true => exact ⟨[], false, true, by rw [slugStep, if_neg hg, if_pos (Or.inl (by simp))], by rw [refStep, if_neg hg, if_pos (by decide), slugStep, if_neg hg, if_pos (Or.inl (by simp))], fun h => by simp at h, fun x hx => by simp at hx, fun x hx => by simp at hx⟩
        | false => exact ⟨[], false, true, by rw [slugStep, if_neg hg, if_pos (Or.inl (by simp))], by rw [refStep, if_neg hg, if_neg (by decide), slugStep, if_neg hg, if_pos (Or.inl (by simp))]; rfl, fun h => by simp at h, fun x hx => by simp at hx, fun x hx => by simp at hx⟩
    | cons a r =>
      cases dash with
      | true =>
        have e1 : endsD ((a :: r) ++ [45]) = true := by rw [ends_append_one]; rfl
        have e2 : endsD ((if lead = true then [45] else []) ++ ((a :: r) ++ [45])) = true := by rw [← List.append_assoc, ends_append_one]; rfl
        refine ⟨a :: r, true, lead, ?_, ?_, fun _ => by simp, hl, hh⟩
        · rw [slugStep, if_neg hg]; simp only [if_true]; rw [if_pos (Or.inr e1)]
        · rw [refStep, if_neg hg, slugStep, if_neg hg]; simp only [if_true]; rw [if_pos e2, if_pos (Or.inr e1)]
      | false =>
        have e1 : endsD (a :: r) = false := by
          unfold endsD
          rw [decide_eq_false_iff_not]
          exact fun h => hl 45 h rfl
        have e2 : endsD ((if lead = true then [45] else []) ++ (a :: r)) = false := by
          unfold endsD at e1 ⊢
          rw [List.getLast?_append]
          rw [decide_eq_false_iff_not] at e1 ⊢
          intro h
          apply e1
          cases hq : (a :: r).getLast? with
          | none => simp at hq
          | some y => rw [hq] at h; simpa using h
        have hs : slugStep (a :: r ++ if false = true then [45] else []) c = a :: r ++ [45] := by
          simp only [Bool.false_eq_true, if_false, List.append_nil]
          rw [slugStep, if_neg hg, if_neg (by rw [e1]; simp)]
        have hr : refStep ((if lead = true then [45] else []) ++ (a :: r ++ if false = true then [45] else [])) c = (if lead = true then [45] else []) ++ (a :: r ++ [45]) := by
          simp only [Bool.false_eq_true, if_false, List.append_nil]
          rw [refStep, if_neg hg, e2, if_neg (by simp), List.append_assoc]
        exact ⟨a :: r, true, lead, by rw [hs]; rfl, by rw [hr, hs], fun _ => by simp, hl, hh⟩

theorem slug_inv (l : List UInt8) : ∀ k, k ≤ l.length → SlugInv (slugF (l.take k)) (refF (l.take k))
  | 0, _ => ⟨[], false, false, rfl, rfl, fun h => by simp at h, fun x hx => by simp at hx, fun x hx => by simp at hx⟩
  | k + 1, h => by
    have hk : l[k]? = some l[k] := List.getElem?_eq_getElem (by omega)
    rw [slugF_take hk, refF_take hk]
    exact slug_step _ (slug_inv l k (by omega))

theorem trimRight_one (l : List UInt8) : Lib.trimRightB (l ++ [45]) 45 = Lib.trimRightB l 45 := by simp [Lib.trimRightB]
theorem trimRight_keep {l : List UInt8} (h : endsD l = false) : Lib.trimRightB l 45 = l := by
  rcases List.eq_nil_or_concat l with rfl | ⟨t, x, rfl⟩
  · rfl
  · rw [List.concat_eq_append] at h ⊢
    rw [ends_append_one, decide_eq_false_iff_not] at h
    simp [Lib.trimRightB, h]

theorem slug_end {M R : List UInt8} (h : SlugInv M R) : Lib.trimB R 45 = slugEnd M := by
  obtain ⟨P, dash, lead, rfl, rfl, hd, hl, hh⟩ := h
  cases P with
  | nil =>
    cases dash with
    | true => exact absurd rfl (hd rfl)
    | false => cases lead <;> decide
  | cons a r =>
    have e1 : endsD (a :: r) = false := by
      unfold endsD
      rw [decide_eq_false_iff_not]
      exact fun h => hl 45 h rfl
    have e2 : endsD ((if lead = true then [45] else []) ++ (a :: r)) = false := by
      unfold endsD at e1 ⊢
      rw [List.getLast?_append]
      rw [decide_eq_false_iff_not] at e1 ⊢
      intro h
      apply e1
      cases hq : (a :: r).getLast? with
      | none => simp at hq
      | some y => rw [hq] at h; simpa using h
    have ha : (a == 45) = false := by
      have := hh a rfl
      simpa using this
    have hR : Lib.trimRightB ((if lead = true then [45] else []) ++ ((a :: r) ++ (if dash = true then [45] else []))) 45 = (if lead = true then [45] else []) ++ (a :: r) := by
      cases dash with
      | true => simp only [if_true]; rw [← List.append_assoc, trimRight_one, trimRight_keep e2]
      | false => simp only [Bool.false_eq_true, if_false, List.append_nil]; exact trimRight_keep e2
    rw [Lib.trimB, hR]
    have hL : Lib.trimLeftB ((if lead = true then [45] else []) ++ (a :: r)) 45 = a :: r := by
      cases lead with
      | true => simp [Lib.trimLeftB, ha]
      | false => simp [Lib.trimLeftB, ha]
    rw [hL]
    cases dash with
    | true =>
      simp only [if_true]
      rw [slugEnd, ends_append_one, if_pos (by simp), List.dropLast_concat]
    | false =>
      simp only [Bool.false_eq_true, if_false, List.append_nil]
      rw [slugEnd, e1]
      simp

theorem slug_law (l : List UInt8) : Lib.trimB (refF l) 45 = slugEnd (slugF l) := by
  have := slug_end (slug_inv l l.length (Nat.le_refl _))
  rwa [List.take_length] at this

theorem slugStep_len (o : List UInt8) (c : UInt8) : (slugStep o c).length ≤ o.length + 1 := by
  unfold slugStep
  split
  · simp
  · split <;> simp
theorem slugF_len (l : List UInt8) : ∀ k, k ≤ l.length → (slugF (l.take k)).length ≤ k
  | 0, _ => by simp [slugF]
  | k + 1, h => by
    have hk : l[k]? = some l[k] := List.getElem?_eq_getElem (by omega)
    rw [slugF_take hk]
    have := slugStep_len (slugF (l.take k)) l[k]
    have := slugF_len l k (by omega)
    omega
theorem refF_len (l : List UInt8) : ∀ k, k ≤ l.length → (refF (l.take k)).length ≤ k
  | 0, _ => by simp [refF]
  | k + 1, h => by
    have hk : l[k]? = some l[k] := List.getElem?_eq_getElem (by omega)
    rw [refF_take hk]
    have h1 : (refStep (refF (l.take k)) l[k]).length ≤ (refF (l.take k)).length + 1 := by
      unfold refStep
      split
      · simp
      · split <;> simp
    have := refF_len l k (by omega)
    omega

end Go.Proofs.YtikijmjcmpkkdaaGreatDoor
