/-
  Addresses: their parts, and how a reference is resolved, in plain words.
-/
import Derived.Test.YtebhbgamdhjdkaaDoorPagePart
import Derived.Lib.SplitLaws
import Derived.Lib.IndexMore
namespace Go.Proofs.YtebhbgamdhjdkaaDoor
open Go.RowKit

/-- parts with a stroke behind each -/
def joinL : List ByteArray → List UInt8
  | [] => []
  | p :: r => p.data.toList ++ 47 :: joinL r
/-- the address of parts -/
def addrB (L : List ByteArray) : List UInt8 := 47 :: joinL L

theorem joinL_append (a b : List ByteArray) : joinL (a ++ b) = joinL a ++ joinL b := by
  induction a with
  | nil => rfl
  | cons p r ih => simp [joinL, ih]
theorem addrB_push (a : List ByteArray) (p : ByteArray) : addrB (a ++ [p]) = addrB a ++ (p.data.toList ++ [47]) := by
  unfold addrB
  rw [joinL_append]
  simp [joinL]
theorem addrB_take {L : List ByteArray} {k : Nat} {p : ByteArray} (h : L[k]? = some p) : addrB (L.take (k + 1)) = addrB (L.take k) ++ (p.data.toList ++ [47]) := by
  obtain ⟨hk, rfl⟩ := List.getElem?_eq_some_iff.1 h
  rw [List.take_succ_eq_append_getElem hk, addrB_push]
theorem addrB_take_le (L : List ByteArray) (k : Nat) : (addrB (L.take k)).length ≤ (addrB L).length := by
  have h : L = L.take k ++ L.drop k := (List.take_append_drop k L).symm
  have : joinL L = joinL (L.take k) ++ joinL (L.drop k) := by rw [← joinL_append, ← h]
  unfold addrB
  rw [this]
  simp
theorem addrB_mem {L : List ByteArray} {p : ByteArray} (h : p ∈ L) : p.size + 1 ≤ (addrB L).length := by
  induction L with
  | nil => cases h
  | cons a r ih =>
    cases List.mem_cons.1 h with
    | inl e => subst e; have := size_toList p; simp only [addrB, joinL, List.length_cons, List.length_append]; omega
    | inr e => have := ih e; simp [addrB, joinL] at this ⊢; omega
theorem addrB_len (L : List ByteArray) : L.length + 1 ≤ (addrB L).length := by
  induction L with
  | nil => simp [addrB, joinL]
  | cons a r ih => simp [addrB, joinL] at ih ⊢; omega

/-- a string cut at strokes -/
def cutS (s : ByteArray) : List ByteArray := Lib.splitB ⟨#[47]⟩ 0 (Lib.countB s ⟨#[47]⟩) s

theorem split_join : ∀ (k : Nat) (s : ByteArray), joinL (Lib.splitB ⟨#[47]⟩ 0 k s) = s.data.toList ++ [47]
  | 0, s => by simp [Lib.splitB, joinL]
  | k + 1, s => by
    rcases Lib.index_spec s.data.toList [47] with ⟨h, _⟩ | ⟨i, h, hi, ho, _⟩
    · rw [Lib.splitB_miss _ _ _ _ h]; simp [joinL]
    · rw [Lib.splitB_hit _ _ _ _ i h, joinL, split_join k]
      have hpre : [47].isPrefixOf (s.data.toList.drop i) = true := ho
      obtain ⟨t, ht⟩ := List.isPrefixOf_iff_prefix.1 hpre
      have e1 : (s.extract 0 (i + 0)).data.toList = s.data.toList.take i := by rw [ByteArray.data_extract, Array.toList_extract, List.extract_eq_drop_take']; simp
      have e2 : (s.extract (i + (⟨#[47]⟩ : ByteArray).size) s.size).data.toList = s.data.toList.drop (i + 1) := by
        rw [ByteArray.data_extract, Array.toList_extract, List.extract_eq_drop_take', List.take_of_length_le (by rw [size_toList]; omega)]
        rfl
      rw [e1, e2]
      have e3 : s.data.toList.drop (i + 1) = t := by
        rw [show i + 1 = i + 1 from rfl, ← List.drop_drop, ← ht]; rfl
      have e4 : s.data.toList = s.data.toList.take i ++ 47 :: t := by
        conv => lhs; rw [← List.take_append_drop i s.data.toList, ← ht]
        rfl
      rw [e3]
      conv => rhs; rw [e4]
      simp

theorem cut_join (s : ByteArray) : joinL (cutS s) = s.data.toList ++ [47] := split_join _ s
theorem cut_len (s : ByteArray) : (cutS s).length = Lib.countB s ⟨#[47]⟩ + 1 := Lib.splitB_all _ (by decide) _ _ _ rfl
theorem cut_le (s : ByteArray) : (cutS s).length ≤ s.size + 1 := by
  have := Lib.countB_le ⟨#[47]⟩ (by decide) s.size s (Nat.le_refl _)
  rw [cut_len]; omega
theorem cut_mem {s p : ByteArray} (h : p ∈ cutS s) : p.size ≤ s.size + 1 := by
  have := addrB_mem h
  unfold addrB at this
  rw [cut_join] at this
  simp only [List.length_cons, List.length_append, List.length_nil, size_toList] at this
  omega

open Classical in
/-- the parts of an address -/
noncomputable def addrOk (s : ByteArray) : Option (List ByteArray) :=
  if s.data.toList = [47] then some []
  else if 2 ≤ s.size ∧ s.size ≤ 200 ∧ s.data.toList[0]? = some 47 ∧ s.data.toList[s.size - 1]? = some 47 ∧ (∀ p ∈ cutS (s.extract 1 (s.size - 1)), partS p.data.toList = true) then some (cutS (s.extract 1 (s.size - 1))) else none

theorem addrOk_root {s : ByteArray} (h : s.data.toList = [47]) : addrOk s = some [] := by unfold addrOk; rw [if_pos h]
theorem addrOk_some {s : ByteArray} (h0 : ¬ s.data.toList = [47]) (h : 2 ≤ s.size ∧ s.size ≤ 200 ∧ s.data.toList[0]? = some 47 ∧ s.data.toList[s.size - 1]? = some 47 ∧ (∀ p ∈ cutS (s.extract 1 (s.size - 1)), partS p.data.toList = true)) : addrOk s = some (cutS (s.extract 1 (s.size - 1))) := by
  unfold addrOk; rw [if_neg h0, if_pos h]
theorem addrOk_none {s : ByteArray} (h0 : ¬ s.data.toList = [47]) (h : ¬ (2 ≤ s.size ∧ s.size ≤ 200 ∧ s.data.toList[0]? = some 47 ∧ s.data.toList[s.size - 1]? = some 47 ∧ (∀ p ∈ cutS (s.extract 1 (s.size - 1)), partS p.data.toList = true))) : addrOk s = none := by
  unfold addrOk; rw [if_neg h0, if_neg h]

theorem ext_listQ (s : ByteArray) (i j : Nat) : (s.extract i j).data.toList = (s.data.toList.take j).drop i := by
  rw [ByteArray.data_extract, Array.toList_extract, List.extract_eq_drop_take']

theorem addrOk_addr {s : ByteArray} {L : List ByteArray} (h : addrOk s = some L) : addrB L = s.data.toList ∧ (∀ p ∈ L, partS p.data.toList = true) ∧ s.size ≤ 200 := by
  unfold addrOk at h
  by_cases h0 : s.data.toList = [47]
  · rw [if_pos h0] at h
    cases h
    exact ⟨by rw [h0]; rfl, (fun p hp => by cases hp), by rw [← size_toList, h0]; decide⟩
  · rw [if_neg h0] at h
    by_cases h1 : 2 ≤ s.size ∧ s.size ≤ 200 ∧ s.data.toList[0]? = some 47 ∧ s.data.toList[s.size - 1]? = some 47 ∧ (∀ p ∈ cutS (s.extract 1 (s.size - 1)), partS p.data.toList = true)
    · rw [if_pos h1] at h
      cases h
      obtain ⟨a, b, c, d, e⟩ := h1
      refine ⟨?_, e, b⟩
      unfold addrB
      rw [cut_join, ext_listQ]
      have hl := size_toList s
      cases hs : s.data.toList with
      | nil => rw [hs] at hl; simp at hl; omega
      | cons x r =>
        rw [hs] at c d hl
        simp at c
        subst c
        have hr : r.length + 1 = s.size := by simpa using hl
        have hd : r[s.size - 2]? = some 47 := by
          rw [show s.size - 1 = (s.size - 2) + 1 by omega] at d
          simpa using d
        obtain ⟨hk, hk2⟩ := List.getElem?_eq_some_iff.1 hd
        have : r = r.take (s.size - 2) ++ [47] := by
          have h2 := List.take_succ_eq_append_getElem hk
          rw [List.take_of_length_le (by omega), hk2] at h2
          exact h2
        rw [show s.size - 1 = (s.size - 2) + 1 by omega, List.take_succ_cons, List.drop_succ_cons, List.drop_zero, ← this]
    · rw [if_neg h1] at h; cases h

open Classical in
/-- one part of a reference: the error, and the parts behind it -/
noncomputable def stepR (L : List ByteArray) (p : ByteArray) : Int × List ByteArray :=
  if p.data.toList = [] ∨ p.data.toList = [46] then (0, L)
  else if p.data.toList = [46, 46] then (if L = [] then (7, []) else (0, L.dropLast))
  else if partS p.data.toList = false then (3, [])
  else if 200 < (addrB (L ++ [p])).length then (3, []) else (0, L ++ [p])

/-- a reference resolved -/
noncomputable def resF : List ByteArray → List ByteArray → Int × List UInt8
  | L, [] => (0, addrB L)
  | L, p :: r => if (stepR L p).1 = 0 then resF (stepR L p).2 r else ((stepR L p).1, [])

open Classical in
noncomputable def resO (f r : ByteArray) : Int × List UInt8 :=
  match addrOk f with
  | none => (3, [])
  | some L => if 200 < r.size then (3, []) else resF (if Lib.hasPrefix r.data.toList [47] = true then [] else L) (cutS r)

theorem step_same {L : List ByteArray} {p : ByteArray} (h : p.data.toList = [] ∨ p.data.toList = [46]) : stepR L p = (0, L) := by unfold stepR; rw [if_pos h]
theorem step_up0 {p : ByteArray} (h : p.data.toList = [46, 46]) : stepR [] p = (7, []) := by
  unfold stepR
  rw [if_neg (by rw [h]; decide), if_pos h, if_pos rfl]
theorem step_up {L : List ByteArray} {p : ByteArray} (h : p.data.toList = [46, 46]) (hL : L ≠ []) : stepR L p = (0, L.dropLast) := by
  unfold stepR
  rw [if_neg (by rw [h]; decide), if_pos h, if_neg hL]
theorem step_bad {L : List ByteArray} {p : ByteArray} (h1 : ¬ (p.data.toList = [] ∨ p.data.toList = [46])) (h2 : ¬ p.data.toList = [46, 46]) (h3 : partS p.data.toList = false) : stepR L p = (3, []) := by
  unfold stepR; rw [if_neg h1, if_neg h2, if_pos h3]
theorem step_long {L : List ByteArray} {p : ByteArray} (h1 : ¬ (p.data.toList = [] ∨ p.data.toList = [46])) (h2 : ¬ p.data.toList = [46, 46]) (h3 : partS p.data.toList = true) (h4 : 200 < (addrB (L ++ [p])).length) : stepR L p = (3, []) := by
  unfold stepR; rw [if_neg h1, if_neg h2, if_neg (by rw [h3]; decide), if_pos h4]
theorem step_push {L : List ByteArray} {p : ByteArray} (h1 : ¬ (p.data.toList = [] ∨ p.data.toList = [46])) (h2 : ¬ p.data.toList = [46, 46]) (h3 : partS p.data.toList = true) (h4 : ¬ 200 < (addrB (L ++ [p])).length) : stepR L p = (0, L ++ [p]) := by
  unfold stepR; rw [if_neg h1, if_neg h2, if_neg (by rw [h3]; decide), if_neg h4]

/-- how far a reference has been resolved -/
def RRel (o : Int × List UInt8) (L ps : List ByteArray) (k : Nat) : Prop := o = resF L (ps.drop k)
theorem RRel.step {o : Int × List UInt8} {L L2 ps : List ByteArray} {k : Nat} {p : ByteArray} (h : RRel o L ps k) (hp : ps[k]? = some p) (hs : stepR L p = (0, L2)) : RRel o L2 ps (k + 1) := by
  obtain ⟨hk, rfl⟩ := List.getElem?_eq_some_iff.1 hp
  unfold RRel
  rw [show o = _ from h, List.drop_eq_getElem_cons hk, resF, hs, if_pos rfl]
theorem RRel.bad {o : Int × List UInt8} {L L2 ps : List ByteArray} {k : Nat} {p : ByteArray} {c : Int} (h : RRel o L ps k) (hp : ps[k]? = some p) (hs : stepR L p = (c, L2)) (hc : c ≠ 0) : o = (c, []) := by
  obtain ⟨hk, rfl⟩ := List.getElem?_eq_some_iff.1 hp
  rw [show o = _ from h, List.drop_eq_getElem_cons hk, resF, hs, if_neg hc]
theorem RRel.fin {o : Int × List UInt8} {L ps : List ByteArray} {k : Nat} (h : RRel o L ps k) (hk : ps.length ≤ k) : o = (0, addrB L) := by
  rw [show o = _ from h, List.drop_of_length_le hk, resF]

end Go.Proofs.YtebhbgamdhjdkaaDoor
