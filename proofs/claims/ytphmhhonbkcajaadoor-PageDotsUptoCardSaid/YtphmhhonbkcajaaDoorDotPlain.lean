/-
  The dot of a shortcode, as plain functions over its arguments.
-/
import Derived.Test.YtphmhhonbkcajaaDoorNamesPlain
import Derived.Test.YtphmhhonbkcajaaDoorPgV
import Derived.Test.YtphmhhonbkcajaaDoorStrMap
namespace Go.Proofs.YtphmhhonbkcajaaDoor
open Go.RowKit Go.Deep

/-- an argument: its name, its value -/
abbrev ArgP := ByteArray × ByteArray
def bareA (a : ArgP) : Bool := a.1.data.toList == []
/-- the values without a name -/
def unN (l : List ArgP) : List Val := (l.filter bareA).map fun a => vStr a.2
/-- the names -/
def nmL (l : List ArgP) : List Str := (l.filter fun a => !bareA a).map fun a => a.1.data.toList
/-- the first value of a name -/
def valF (l : List ArgP) (s : List UInt8) : Option (List UInt8) := (l.find? fun a => !bareA a && a.1.data.toList == s).map fun a => a.2.data.toList
def itN (l : List ArgP) (ks : List Str) : List Val := ks.map fun s => vStr ⟨((valF l s).getD []).toArray⟩
def strK (ks : List Str) : List ByteArray := ks.map fun s => ⟨s.toArray⟩
def argsV (l : List ArgP) : Val := .mk 5 false 0 ⟨#[]⟩ (unN l) []
def namedV (l : List ArgP) : Val := .mk 6 false 0 ⟨#[]⟩ (itN l (canon (nmL l))) (strK (canon (nmL l)))

theorem take_snoc {α : Type} {l : List α} {k : Nat} {a : α} (h : l[k]? = some a) : l.take (k + 1) = l.take k ++ [a] := by
  obtain ⟨hk, rfl⟩ := List.getElem?_eq_some_iff.1 h
  rw [List.take_succ_eq_append_getElem hk]
theorem unN_bare {l : List ArgP} {k : Nat} {a : ArgP} (h : l[k]? = some a) (hb : bareA a = true) : unN (l.take (k + 1)) = unN (l.take k) ++ [vStr a.2] := by
  rw [take_snoc h]; simp [unN, List.filter_append, hb]
theorem unN_named {l : List ArgP} {k : Nat} {a : ArgP} (h : l[k]? = some a) (hb : bareA a = false) : unN (l.take (k + 1)) = unN (l.take k) := by
  rw [take_snoc h]; simp [unN, List.filter_append, hb]
theorem nmL_bare {l : List ArgP} {k : Nat} {a : ArgP} (h : l[k]? = some a) (hb : bareA a = true) : nmL (l.take (k + 1)) = nmL (l.take k) := by
  rw [take_snoc h]; simp [nmL, List.filter_append, hb]
theorem nmL_named {l : List ArgP} {k : Nat} {a : ArgP} (h : l[k]? = some a) (hb : bareA a = false) : nmL (l.take (k + 1)) = nmL (l.take k) ++ [a.1.data.toList] := by
  rw [take_snoc h]; simp [nmL, List.filter_append, hb]
theorem valF_mem {l : List ArgP} {s : List UInt8} : valF l s ≠ none ↔ s ∈ nmL l := by
  unfold valF nmL
  rw [ne_eq, Option.map_eq_none_iff, List.find?_eq_none, List.mem_map]
  constructor
  · intro h
    simp only [Classical.not_forall] at h
    obtain ⟨a, ha, h2⟩ := h
    simp only [Classical.not_not, Bool.and_eq_true, beq_iff_eq] at h2
    exact ⟨a, List.mem_filter.2 ⟨ha, h2.1⟩, h2.2⟩
  · rintro ⟨a, ha, h2⟩ h
    obtain ⟨h3, h4⟩ := List.mem_filter.1 ha
    exact h a h3 (by simp only [Bool.and_eq_true, beq_iff_eq]; exact ⟨h4, h2⟩)
theorem valF_snoc (l : List ArgP) (a : ArgP) (s : List UInt8) : valF (l ++ [a]) s = (match valF l s with | some x => some x | none => if (!bareA a && a.1.data.toList == s) = true then some a.2.data.toList else none) := by
  unfold valF
  rw [List.find?_append]
  cases h : l.find? (fun a => !bareA a && a.1.data.toList == s) with
  | some x => simp
  | none =>
    simp only [Option.none_or, Option.map_none, List.find?_cons, List.find?_nil]
    cases (!bareA a && a.1.data.toList == s) <;> simp
theorem valF_bare {l : List ArgP} {k : Nat} {a : ArgP} (h : l[k]? = some a) (hb : bareA a = true) : valF (l.take (k + 1)) = valF (l.take k) := by
  rw [take_snoc h]; funext s; rw [valF_snoc]
  cases h1 : valF (l.take k) s with
  | some x => rfl
  | none => rw [if_neg (by rw [hb]; simp)]
theorem valF_new {l : List ArgP} {k : Nat} {a : ArgP} (h : l[k]? = some a) (hb : bareA a = false) (hn : valF (l.take k) a.1.data.toList = none) : valF (l.take (k + 1)) = putF (valF (l.take k)) a.1.data.toList a.2.data.toList := by
  rw [take_snoc h]; funext s; rw [valF_snoc]
  by_cases hs : s = a.1.data.toList
  · subst hs; rw [hn, putF_same]; simp [hb]
  · rw [putF_ne _ _ hs]
    cases h1 : valF (l.take k) s with
    | some x => rfl
    | none =>
      have : (a.1.data.toList == s) = false := by rw [beq_eq_false_iff_ne]; exact fun e => hs e.symm
      rw [if_neg (by rw [this]; simp)]
theorem valF_old {l : List ArgP} {k : Nat} {a : ArgP} (h : l[k]? = some a) {x : List UInt8} (hn : valF (l.take k) a.1.data.toList = some x) : valF (l.take (k + 1)) = valF (l.take k) := by
  rw [take_snoc h]; funext s; rw [valF_snoc]
  cases h1 : valF (l.take k) s with
  | some y => rfl
  | none =>
    have : (a.1.data.toList == s) = false := by rw [beq_eq_false_iff_ne]; intro e; subst e; rw [hn] at h1; cases h1
    rw [if_neg (by rw [this]; simp)]
theorem canon_new {l : List ArgP} {k : Nat} {a : ArgP} (h : l[k]? = some a) (hb : bareA a = false) : insS a.1.data.toList (canon (nmL (l.take k))) = canon (nmL (l.take (k + 1))) := by
  rw [nmL_named h hb, canon_ins]
theorem canon_old {l : List ArgP} {k : Nat} {a : ArgP} (h : l[k]? = some a) (hb : bareA a = false) {x : List UInt8} (hn : valF (l.take k) a.1.data.toList = some x) : canon (nmL (l.take k)) = canon (nmL (l.take (k + 1))) := by
  rw [nmL_named h hb]
  refine canon_same fun y => ?_
  have : a.1.data.toList ∈ nmL (l.take k) := valF_mem.1 (by rw [hn]; simp)
  simp only [List.mem_append, List.mem_singleton]
  constructor
  · exact Or.inl
  · rintro (h1 | rfl)
    · exact h1
    · exact this
theorem canon_bare {l : List ArgP} {k : Nat} {a : ArgP} (h : l[k]? = some a) (hb : bareA a = true) : canon (nmL (l.take k)) = canon (nmL (l.take (k + 1))) := by rw [nmL_bare h hb]
theorem unN_len (l : List ArgP) : (unN l).length ≤ l.length := by unfold unN; rw [List.length_map]; exact List.length_filter_le _ _
theorem nmL_len (l : List ArgP) : (nmL l).length ≤ l.length := by unfold nmL; rw [List.length_map]; exact List.length_filter_le _ _
theorem valF_first {l : List ArgP} {j : Nat} {a : ArgP} {s : List UInt8} (hs : s ≠ []) (hb : ∀ i : Nat, i < j → ∀ x : ArgP, l[i]? = some x → x.1.data.toList ≠ s) (h : l[j]? = some a) (he : a.1.data.toList = s) : valF l s = some a.2.data.toList := by
  unfold valF
  have hj : l = l.take j ++ a :: l.drop (j + 1) := by
    obtain ⟨hk, rfl⟩ := List.getElem?_eq_some_iff.1 h
    rw [← List.drop_eq_getElem_cons hk, List.take_append_drop]
  rw [hj, List.find?_append]
  have h1 : (l.take j).find? (fun a => !bareA a && a.1.data.toList == s) = none := by
    rw [List.find?_eq_none]
    intro x hx
    obtain ⟨i, hi, hix⟩ := List.getElem_of_mem hx
    have hlt : i < j := by have := List.length_take_le j l; omega
    have := hb i hlt x (by rw [List.getElem_take] at hix; rw [← hix]; exact List.getElem?_eq_getElem _)
    simp [this]
  have h2 : (!bareA a && a.1.data.toList == s) = true := by
    simp only [bareA, Bool.and_eq_true, beq_iff_eq, Bool.not_eq_true']
    exact ⟨by rw [beq_eq_false_iff_ne, he]; exact hs, he⟩
  rw [h1, List.find?_cons, h2]
  rfl
theorem nmL_none {l : List ArgP} {s : List UInt8} (hb : ∀ (i : Nat) (x : ArgP), l[i]? = some x → x.1.data.toList ≠ s) : s ∉ nmL l := by
  intro h
  obtain ⟨a, ha, rfl⟩ := List.mem_map.1 h
  obtain ⟨i, hi, hix⟩ := List.getElem_of_mem (List.mem_filter.1 ha).1
  exact hb i a (by rw [← hix]; exact List.getElem?_eq_getElem _) rfl
theorem nmL_ne {l : List ArgP} {s : List UInt8} (h : s ∈ nmL l) : s ≠ [] := by
  obtain ⟨a, ha, rfl⟩ := List.mem_map.1 h
  have := (List.mem_filter.1 ha).2
  intro e
  simp [bareA, e] at this

/-- the keys of a shortcode's dot -/
def kDot : List ByteArray := [⟨#[97, 114, 103, 115]⟩, ⟨#[105, 110, 110, 101, 114]⟩, ⟨#[110, 97, 109, 101, 100]⟩, ⟨#[112, 97, 103, 101]⟩]
def inV (en : Bool) (inner : ByteArray) : Val := if en = true then vSafe inner else .mk 0 false 0 ⟨#[]⟩ [] []
def dotV (l : List ArgP) (en : Bool) (addr inner : ByteArray) : Val := .mk 6 false 0 ⟨#[]⟩ [argsV l, inV en inner, namedV l, vPage addr] kDot

end Go.Proofs.YtphmhhonbkcajaaDoor
