/-
  What a step gives, plainly: the error, the outputs.
-/
import Derived.Test.YtogjhcmaapplgaaDoorApPlain
import Derived.Test.YtogjhcmaapplgaaDoorEvWalk
namespace Go.Proofs.YtogjhcmaapplgaaDoor
open Go.RowKit Go.Deep

def inB (F : List OutV) (x : OutV) : Bool := F.any (fun o => pathL o == pathL x)
def apM (l F : List OutV) (rm : Bool) : List OutV := l.filter (fun x => !inB F x) ++ (if rm then [] else F)
def leO (x y : OutV) : Bool := decide (pathL x ≤ pathL y)
/-- the outputs behind the step, by path -/
def apR (l F : List OutV) (rm : Bool) : List OutV := (apM l F rm).mergeSort leO
def formB (F : List OutV) : Bool := F.any (fun o => !o.body.data.toList.isEmpty)
def noneB (l F : List OutV) : Bool := F.any (fun o => (outAtN l (pathL o)).isNone)
def apE (l F : List OutV) (rm : Bool) : Int :=
  if outsE l ≠ 0 then outsE l else if outsE F ≠ 0 then outsE F else if rm = true ∧ formB F = true then 1 else if rm = true ∧ noneB l F = true then 7 else outsE (apR l F rm)
def apV (l F : List OutV) (rm : Bool) : List OutV := if apE l F rm = 0 then apR l F rm else []

theorem leO_trans : ∀ a b c : OutV, leO a b = true → leO b c = true → leO a c = true := fun a b c h1 h2 => by
  simp only [leO, decide_eq_true_eq] at *
  exact List.le_trans h1 h2
theorem leO_total : ∀ a b : OutV, (leO a b || leO b a) = true := fun a b => by
  simp only [leO, Bool.or_eq_true, decide_eq_true_eq]
  exact List.le_total _ _
theorem apM_parted {l F : List OutV} {rm : Bool} (hl : Parted l) (hF : Parted F) : Parted (apM l F rm) := by
  unfold apM Parted
  rw [List.pairwise_append]
  refine ⟨List.Pairwise.filter _ hl, ?_, fun x hx y hy => ?_⟩
  · cases rm
    · exact hF
    · exact List.Pairwise.nil
  · intro he
    have h1 := (List.mem_filter.1 hx).2
    cases rm
    · simp only [Bool.false_eq_true, if_false] at hy
      have h2 : inB F x = true := List.any_eq_true.2 ⟨y, hy, by rw [he]; exact beq_self_eq_true _⟩
      rw [h2] at h1
      cases h1
    · simp at hy
theorem apR_perm (l F : List OutV) (rm : Bool) : (apR l F rm).Perm (apM l F rm) := List.mergeSort_perm _ _
theorem apR_rises {l F : List OutV} {rm : Bool} (hl : Parted l) (hF : Parted F) : Rises (apR l F rm) := by
  refine rises_of ((apM_parted hl hF).perm (apR_perm l F rm).symm) ?_
  refine (List.pairwise_mergeSort leO_trans leO_total (apM l F rm)).imp (fun {a b} h h2 => ?_)
  simp only [leO, decide_eq_true_eq] at h
  exact absurd h2 (List.not_lt.2 h)
/-- whatever is sorted by paths and has these members is it -/
theorem apR_unique {l F U : List OutV} {rm : Bool} (hl : Parted l) (hF : Parted F) (hp : U.Perm (apM l F rm)) (hs : U.Pairwise (fun x y => ¬ pathL y < pathL x)) : U = apR l F rm :=
  rise_unique (rises_of ((apM_parted hl hF).perm hp.symm) hs) (apR_rises hl hF) (fun _ => (hp.mem_iff).trans (apR_perm l F rm).mem_iff.symm)
theorem parted_of {l : List OutV} (h : outsE l = 0) : Parted l := outs_apart h
theorem bodyP_in {l : List OutV} (s : List UInt8) : (bodyP l s).isSome = l.any (fun o => pathL o == s) := by
  rw [bodyP, Option.isSome_map]
  cases hf : l.find? (fun o => o.path.data.toList == s) with
  | none =>
    rw [List.find?_eq_none] at hf
    symm
    rw [Option.isSome_none, List.any_eq_false]
    exact fun x hx => hf x hx
  | some x =>
    symm
    rw [Option.isSome_some, List.any_eq_true]
    have h9 := List.find?_some hf
    exact ⟨x, List.mem_of_find?_eq_some hf, h9⟩
theorem bodyP_iff {l : List OutV} (h : Parted l) (x : OutV) : bodyP l (pathL x) = some (bodyL x) ↔ x ∈ l := by
  constructor
  · intro hb
    rw [bodyP, Option.map_eq_some_iff] at hb
    obtain ⟨y, hy, hy2⟩ := hb
    have h1 := List.find?_some hy
    rw [show x = y from (outV_ext (eq_of_beq h1) hy2).symm]
    exact List.mem_of_find?_eq_some hy
  · exact fun hx => bodyP_some h hx
/-- the map behind the stores, or the deletions, holds the members -/
theorem put_members {l F : List OutV} (hl : Parted l) (hF : Parted F) (x : OutV) : putAll (bodyP l) F (pathL x) = some (bodyL x) ↔ x ∈ apM l F false := by
  rw [putAll_eq _ _ hF]
  unfold apM
  simp only [Bool.false_eq_true, if_false, List.mem_append, List.mem_filter]
  cases hb : bodyP F (pathL x) with
  | none =>
    have h1 : inB F x = false := by
      have := bodyP_in (l := F) (pathL x)
      rw [hb] at this
      exact this.symm
    have h2 : x ∉ F := fun hx => by rw [(bodyP_iff hF x).2 hx] at hb; cases hb
    simp only [h1, bodyP_iff hl x]
    simp [h2]
  | some z =>
    have h1 : inB F x = true := by
      have := bodyP_in (l := F) (pathL x)
      rw [hb] at this
      exact this.symm
    have h3 := bodyP_iff hF x
    rw [hb] at h3
    simp only [h1]
    simp [h3]
theorem del_members {l F : List OutV} (hl : Parted l) (x : OutV) : delAll (bodyP l) F (pathL x) = some (bodyL x) ↔ x ∈ apM l F true := by
  rw [delAll_eq]
  unfold apM
  simp only [if_true, List.append_nil, List.mem_filter]
  by_cases h : F.any (fun o => pathL o == pathL x) = true
  · rw [if_pos h]
    have h1 : inB F x = true := h
    simp [h1]
  · rw [if_neg h, bodyP_iff hl x]
    have h1 : inB F x = false := by simpa [inB] using h
    simp [h1]

end Go.Proofs.YtogjhcmaapplgaaDoor
