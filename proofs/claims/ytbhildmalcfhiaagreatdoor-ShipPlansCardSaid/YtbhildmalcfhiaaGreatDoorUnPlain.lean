/-
  Names of signs read back, plainly.
-/
import Derived.Test.YtbhildmalcfhiaaGreatDoorBytes
namespace Go.Proofs.YtbhildmalcfhiaaGreatDoor
open Go.RowKit

/-- the names and their signs -/
def pairsU : List (ByteArray × ByteArray) :=
  [(⟨#[38, 97, 109, 112, 59]⟩, ⟨#[38]⟩), (⟨#[38, 108, 116, 59]⟩, ⟨#[60]⟩), (⟨#[38, 103, 116, 59]⟩, ⟨#[62]⟩), (⟨#[38, 113, 117, 111, 116, 59]⟩, ⟨#[34]⟩), (⟨#[38, 35, 51, 57, 59]⟩, ⟨#[39]⟩)]
/-- what stands at the front, after the first k names were tried -/
def tryU (l : List UInt8) : Nat → List UInt8 × Nat
  | 0 => (l.take 1, 1)
  | k + 1 => match pairsU[k]? with
    | some p => if Lib.hasPrefix l p.1.data.toList = true then (p.2.data.toList, p.1.size) else tryU l k
    | none => tryU l k
def stepU (l : List UInt8) : List UInt8 × Nat := tryU l 5
theorem tryU_size (l : List UInt8) : ∀ k, 1 ≤ (tryU l k).2 ∧ (tryU l k).2 ≤ 6
  | 0 => by simp [tryU]
  | k + 1 => by
    rw [tryU]
    split
    · rename_i p hp
      split
      · have hm : p ∈ pairsU := List.mem_of_getElem? hp
        simp only [pairsU, List.mem_cons, List.not_mem_nil, or_false] at hm
        rcases hm with rfl | rfl | rfl | rfl | rfl <;> exact ⟨by decide, by decide⟩
      · exact tryU_size l k
    · exact tryU_size l k
theorem prefix_len {l p : List UInt8} (h : Lib.hasPrefix l p = true) : p.length ≤ l.length := (List.isPrefixOf_iff_prefix.1 h).length_le
theorem tryU_le (l : List UInt8) (h : l ≠ []) : ∀ k, (tryU l k).2 ≤ l.length
  | 0 => by
    have := List.length_pos_iff.2 h
    simp only [tryU]; omega
  | k + 1 => by
    rw [tryU]
    split
    · rename_i p hp
      split
      · rename_i hx
        have := prefix_len hx
        rwa [size_toList] at this
      · exact tryU_le l h k
    · exact tryU_le l h k
theorem tryU_out (l : List UInt8) : ∀ k, (tryU l k).1.length ≤ 1
  | 0 => by simp [tryU]; omega
  | k + 1 => by
    rw [tryU]
    split
    · rename_i p hp
      split
      · have hm : p ∈ pairsU := List.mem_of_getElem? hp
        simp only [pairsU, List.mem_cons, List.not_mem_nil, or_false] at hm
        rcases hm with rfl | rfl | rfl | rfl | rfl <;> decide
      · exact tryU_out l k
    · exact tryU_out l k
def unF : Nat → List UInt8 → List UInt8
  | 0, _ => []
  | f + 1, l => if l = [] then [] else (stepU l).1 ++ unF f (l.drop (stepU l).2)
def unU (l : List UInt8) : List UInt8 := unF l.length l
theorem unF_more : ∀ (f g : Nat) (l : List UInt8), l.length ≤ f → l.length ≤ g → unF f l = unF g l
  | 0, 0, _, _, _ => rfl
  | 0, g + 1, l, h, _ => by
    have : l = [] := List.length_eq_zero_iff.1 (by omega)
    rw [this]; simp [unF]
  | f + 1, 0, l, _, h => by
    have : l = [] := List.length_eq_zero_iff.1 (by omega)
    rw [this]; simp [unF]
  | f + 1, g + 1, l, h1, h2 => by
    rw [unF, unF]
    by_cases hl : l = []
    · rw [if_pos hl, if_pos hl]
    · rw [if_neg hl, if_neg hl]
      have h3 := (tryU_size l 5).1
      have h4 : (l.drop (stepU l).2).length < l.length := by
        have := List.length_pos_iff.2 hl
        rw [List.length_drop]; unfold stepU; omega
      rw [unF_more f g _ (by omega) (by omega)]
theorem unU_nil : unU [] = [] := rfl
theorem unU_step {l : List UInt8} (h : l ≠ []) : unU l = (stepU l).1 ++ unU (l.drop (stepU l).2) := by
  unfold unU
  cases hl : l.length with
  | zero => exact absurd (List.length_eq_zero_iff.1 hl) h
  | succ f =>
    rw [unF, if_neg h]
    congr 1
    refine unF_more _ _ _ ?_ (Nat.le_refl _)
    have h3 := (tryU_size l 5).1
    rw [List.length_drop]; unfold stepU; omega
theorem unF_len : ∀ (f : Nat) (l : List UInt8), l.length ≤ f → (unF f l).length ≤ l.length
  | 0, l, h => by simp [unF]
  | f + 1, l, h => by
    rw [unF]
    by_cases hl : l = []
    · rw [if_pos hl]; simp
    · rw [if_neg hl, List.length_append]
      have h3 := (tryU_size l 5).1
      have h4 := tryU_out l 5
      have h5 := tryU_le l hl 5
      have h6 := unF_len f (l.drop (stepU l).2) (by rw [List.length_drop]; unfold stepU; omega)
      rw [List.length_drop] at h6
      unfold stepU at h6 ⊢
      omega
theorem unU_len (l : List UInt8) : (unU l).length ≤ l.length := unF_len _ l (Nat.le_refl _)
/-- a byte that begins no name -/
theorem stepU_other {c : UInt8} {r : List UInt8} (h : c ≠ 38) : stepU (c :: r) = ([c], 1) := by
  have key : ∀ p ∈ pairsU, Lib.hasPrefix (c :: r) p.1.data.toList = false := by
    intro p hp
    simp only [pairsU, List.mem_cons, List.not_mem_nil, or_false] at hp
    have h2 : (38 == c) = false := by rw [beq_eq_false_iff_ne]; exact fun e => h e.symm
    rcases hp with rfl | rfl | rfl | rfl | rfl <;> simp [Lib.hasPrefix, List.isPrefixOf, h2]
  have hk : ∀ k, tryU (c :: r) k = ([c], 1) := by
    intro k
    induction k with
    | zero => rfl
    | succ k ih =>
      rw [tryU]
      split
      · rename_i p hp
        rw [key p (List.mem_of_getElem? hp)]
        simpa using ih
      · exact ih
  exact hk 5

end Go.Proofs.YtbhildmalcfhiaaGreatDoor
