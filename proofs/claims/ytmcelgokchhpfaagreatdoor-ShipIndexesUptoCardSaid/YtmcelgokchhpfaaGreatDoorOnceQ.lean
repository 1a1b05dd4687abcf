/-
  mastref1.Sorted's words, plainly: rising, and the same ones.
-/
import Derived.Test.YtmcelgokchhpfaaGreatDoorSortedQ
namespace Go.Proofs.YtmcelgokchhpfaaGreatDoor
theorem ble_trans {a b c : List UInt8} (h1 : a ≤ b) (h2 : b ≤ c) : a ≤ c := List.le_trans h1 h2
theorem sorted_at {M : List (List UInt8)} (hs : M.Pairwise (· ≤ ·)) {i j : Nat} {x y : List UInt8} (hi : M[i]? = some x) (hj : M[j]? = some y) (hij : i ≤ j) : x ≤ y := by
  obtain ⟨h1, rfl⟩ := List.getElem?_eq_some_iff.1 hi
  obtain ⟨h2, rfl⟩ := List.getElem?_eq_some_iff.1 hj
  by_cases e : i = j
  · subst e; exact List.le_refl _
  · exact List.pairwise_iff_getElem.1 hs i j h1 h2 (by omega)
theorem once_facts {M : List (List UInt8)} (hs : M.Pairwise (· ≤ ·)) : ∀ k, k ≤ M.length → (onceL M k).Pairwise (· < ·) ∧ ∀ x, x ∈ onceL M k ↔ x ∈ M.take k
  | 0, _ => ⟨List.Pairwise.nil, fun x => by simp [onceL]⟩
  | k + 1, hk => by
    obtain ⟨ih1, ih2⟩ := once_facts hs k (by omega)
    obtain ⟨x, hx⟩ : ∃ x, M[k]? = some x := ⟨_, List.getElem?_eq_getElem (by omega)⟩
    have ht : M.take (k + 1) = M.take k ++ [x] := by
      obtain ⟨h1, rfl⟩ := List.getElem?_eq_some_iff.1 hx
      exact List.take_succ_eq_append_getElem h1
    by_cases hc : k = 0 ∨ M[k - 1]? ≠ some x
    · rw [once_yes hx hc, ht]
      refine ⟨?_, fun y => by rw [List.mem_append, List.mem_append, ih2 y]⟩
      rw [List.pairwise_append]
      refine ⟨ih1, List.pairwise_singleton _ _, fun y hy z hz => ?_⟩
      simp only [List.mem_singleton] at hz
      subst hz
      obtain ⟨i, hi⟩ := List.getElem?_of_mem ((ih2 y).1 hy)
      rw [List.getElem?_take] at hi
      split at hi
      · rename_i hik
        refine Std.lt_of_le_of_ne (sorted_at hs hi hx (by omega)) (fun e => ?_)
        subst e
        rcases hc with hc | hc
        · omega
        · obtain ⟨u, hu⟩ : ∃ u, M[k - 1]? = some u := ⟨_, List.getElem?_eq_getElem (by omega)⟩
          have h1 := sorted_at hs hi hu (by omega)
          have h2 := sorted_at hs hu hx (by omega)
          exact hc (by rw [hu, List.le_antisymm h2 h1])
      · cases hi
    · have hk0 : k ≠ 0 := fun h => hc (Or.inl h)
      have hk1 : M[k - 1]? = some x := by
        cases h : M[k - 1]? with
        | none => exact absurd (Or.inr (by rw [h]; simp)) hc
        | some u =>
          by_cases e : u = x
          · rw [e]
          · exact absurd (Or.inr (by rw [h]; simpa using e)) hc
      rw [once_no hx hk0 hk1, ht]
      refine ⟨ih1, fun y => ?_⟩
      rw [List.mem_append, ih2 y]
      constructor
      · exact Or.inl
      · rintro (h | h)
        · exact h
        · simp only [List.mem_singleton] at h
          subst h
          exact List.mem_of_getElem? (i := k - 1) (by rw [List.getElem?_take, if_pos (by omega)]; exact hk1)
/-- the words asked for: rising, and which they are -/
theorem once_sorted (L : List (List UInt8)) : (onceL (L.mergeSort fun x y => decide (x ≤ y)) (L.mergeSort fun x y => decide (x ≤ y)).length).Pairwise (· < ·) ∧ ∀ x, x ∈ onceL (L.mergeSort fun x y => decide (x ≤ y)) (L.mergeSort fun x y => decide (x ≤ y)).length ↔ x ∈ L := by
  have hs : (L.mergeSort fun x y => decide (x ≤ y)).Pairwise (· ≤ ·) := by
    have := List.pairwise_mergeSort (le := fun x y : List UInt8 => decide (x ≤ y)) (fun a b c h1 h2 => by simp only [decide_eq_true_eq] at *; exact List.le_trans h1 h2) (fun a b => by simp only [Bool.or_eq_true, decide_eq_true_eq]; exact List.le_total a b) L
    exact this.imp (fun {a b} h => by simpa using h)
  obtain ⟨h1, h2⟩ := once_facts hs _ (Nat.le_refl _)
  refine ⟨h1, fun x => ?_⟩
  rw [h2 x, List.take_length]
  exact (List.mergeSort_perm L _).mem_iff
end Go.Proofs.YtmcelgokchhpfaaGreatDoor
