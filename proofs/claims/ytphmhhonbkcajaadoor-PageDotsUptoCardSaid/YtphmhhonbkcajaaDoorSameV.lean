/-
  Two values are equal: what mastref1.SameValue and build.SameValue compute, with no program in sight.
-/
import Derived.Test.YtphmhhonbkcajaaDoorVals
namespace Go.Proofs.YtphmhhonbkcajaaDoor

/-- lists of strings are equal -/
def keysEq (a b : List ByteArray) : Bool := a.map (·.toList) == b.map (·.toList)
mutual
/-- two values are equal -/
def sameV : Val → Val → Bool
  | .mk k b n t is ks, u => k == u.kind && b == u.flag && n == u.num && t.toList == u.text.toList && keysEq ks u.keys && sameL is u.items
def sameL : List Val → List Val → Bool
  | [], l => l.isEmpty
  | v :: r, l => match l with
    | [] => false
    | u :: s => sameV v u && sameL r s
end
theorem sameV_eq (v u : Val) : sameV v u = (v.kind == u.kind && v.flag == u.flag && v.num == u.num && v.text.toList == u.text.toList && keysEq v.keys u.keys && sameL v.items u.items) := by
  cases v; rw [sameV]; rfl
theorem sameL_nil (l : List Val) : sameL [] l = l.isEmpty := by rw [sameL]
theorem sameL_cons (v u : Val) (r s : List Val) : sameL (v :: r) (u :: s) = (sameV v u && sameL r s) := by rw [sameL]
theorem sameL_len : ∀ {l m : List Val}, l.length ≠ m.length → sameL l m = false
  | [], [], h => absurd rfl h
  | [], _ :: _, _ => by rw [sameL_nil]; rfl
  | _ :: _, [], _ => by rw [sameL]
  | v :: r, u :: s, h => by rw [sameL_cons, sameL_len (l := r) (m := s) (by simpa using h), Bool.and_false]
theorem keysEq_len {l m : List ByteArray} (h : l.length ≠ m.length) : keysEq l m = false := by
  unfold keysEq
  rw [beq_eq_false_iff_ne]
  intro e
  have := congrArg List.length e
  simp at this
  exact h this
theorem sameL_at {l m : List Val} {k : Nat} {v u : Val} (h1 : l[k]? = some v) (h2 : m[k]? = some u) : sameL (l.drop k) (m.drop k) = (sameV v u && sameL (l.drop (k + 1)) (m.drop (k + 1))) := by
  obtain ⟨a1, rfl⟩ := List.getElem?_eq_some_iff.1 h1
  obtain ⟨a2, rfl⟩ := List.getElem?_eq_some_iff.1 h2
  rw [List.drop_eq_getElem_cons a1, List.drop_eq_getElem_cons a2, sameL_cons]
theorem keysEq_at {l m : List ByteArray} {k : Nat} {s t : ByteArray} (h1 : l[k]? = some s) (h2 : m[k]? = some t) : keysEq (l.drop k) (m.drop k) = (s.toList == t.toList && keysEq (l.drop (k + 1)) (m.drop (k + 1))) := by
  obtain ⟨a1, rfl⟩ := List.getElem?_eq_some_iff.1 h1
  obtain ⟨a2, rfl⟩ := List.getElem?_eq_some_iff.1 h2
  rw [List.drop_eq_getElem_cons a1, List.drop_eq_getElem_cons a2]
  rfl
theorem keysEq_refl (l : List ByteArray) : keysEq l l = true := by unfold keysEq; simp
theorem same_reflN : ∀ (N : Nat), (∀ v : Val, SizeOf.sizeOf v ≤ N → sameV v v = true) ∧ (∀ l : List Val, SizeOf.sizeOf l ≤ N → sameL l l = true) := by
  intro N
  induction N with
  | zero =>
    refine ⟨fun v h => ?_, fun l h => ?_⟩
    · cases v; simp at h
    · cases l <;> simp at h
  | succ N ih =>
    refine ⟨fun v h => ?_, fun l h => ?_⟩
    · have h1 := v.items_lt
      rw [sameV_eq, ih.2 v.items (by omega), keysEq_refl]
      simp
    · cases l with
      | nil => rw [sameL_nil]; rfl
      | cons v r =>
        simp only [List.cons.sizeOf_spec] at h
        rw [sameL_cons, ih.1 v (by omega), ih.2 r (by omega)]
        rfl
theorem sameV_refl (v : Val) : sameV v v = true := (same_reflN _).1 v (Nat.le_refl _)

end Go.Proofs.YtphmhhonbkcajaaDoor
