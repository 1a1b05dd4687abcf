/-
  Outputs in rows of the call's own.
-/
import Derived.Test.YtogjhcmaapplgaaDoorApSpec
import Derived.Test.YtogjhcmaapplgaaDoorEvents
namespace Go.Proofs.YtogjhcmaapplgaaDoor
open Go.RowKit Go.Deep

def outC (o : OutV) : List Value := [.string o.path, .string o.body]
def outsC (L : List OutV) : List Value := L.flatMap outC
theorem outsC_len (L : List OutV) : (outsC L).length = L.length * 2 := by
  induction L with
  | nil => rfl
  | cons d r ih => simp only [outsC, List.flatMap_cons, List.length_append, List.length_cons, outC, List.length_nil] at ih ⊢; omega
theorem outsC_append (A B : List OutV) : outsC (A ++ B) = outsC A ++ outsC B := by simp [outsC]
theorem outsC_snoc (L : List OutV) (d : OutV) : outsC (L ++ [d]) = outsC L ++ [.string d.path, .string d.body] := by simp [outsC, outC]
theorem outsC_at : ∀ (l : List OutV) (i : Nat) (a : OutV), l[i]? = some a → (outsC l)[i * 2]? = some (.string a.path) ∧ (outsC l)[i * 2 + 1]? = some (.string a.body)
  | [], i, a, h => by simp at h
  | b :: r, 0, a, h => by
    simp at h
    subst h
    exact ⟨rfl, rfl⟩
  | b :: r, i + 1, a, h => by
    have ih := outsC_at r i a (by simpa using h)
    rw [show outsC (b :: r) = outC b ++ outsC r from rfl, List.getElem?_append_right (by simp [outC]; omega), List.getElem?_append_right (by simp [outC]; omega)]
    rw [show (i + 1) * 2 - (outC b).length = i * 2 by simp [outC]; omega, show (i + 1) * 2 + 1 - (outC b).length = i * 2 + 1 by simp [outC]; omega]
    exact ih
theorem outsC_one (L : List OutV) : ∀ u ∈ outsC L, u.oneCell' = true := by
  intro u hu
  obtain ⟨o, _, ho⟩ := List.mem_flatMap.1 hu
  simp only [outC, List.mem_cons, List.not_mem_nil, or_false] at ho
  rcases ho with rfl | rfl <;> rfl
theorem outs_own {w : World} {B : Nat} {v : Value} {L : List OutV} (h : w.ownsRow B 30 2 v L.length (outsC L)) : OutsAt w v L := by
  obtain ⟨hl, h2⟩ := h
  rcases h2 with ⟨rfl, h0⟩ | ⟨g, cap, cur, rfl, hB, hg, hnc, hm, hsz, htake⟩
  · have : L = [] := List.eq_nil_of_length_eq_zero h0
    subst this
    exact ⟨none, 0, 0, 0, rfl, Nat.le_refl _, by simp [maxLen], fun h => absurd rfl h, fun i x hx => by simp at hx⟩
  · have key : ∀ (j : Nat) (x : Value), (outsC L)[j]? = some x → w.cell? ⟨g, j, none⟩ = some x := by
      intro j x hx
      rw [cell_of_row w g j cur _ (0, 0) hg]
      rw [← htake, List.getElem?_take] at hx
      split at hx
      · simpa using hx
      · cases hx
    refine ⟨some ⟨g, 0, none⟩, cap, g, 0, rfl, hnc, hm, fun _ => rfl, fun i n hn => ?_⟩
    obtain ⟨h3, h4⟩ := outsC_at L i n hn
    rw [Nat.zero_add]
    exact ⟨key _ _ h3, key _ _ h4⟩
theorem info_out : (Tryd.prog.info? 30).map (fun i => (i.zero, i.size, i.bytes)) = some (some (.agg #[.string ⟨#[]⟩, .string ⟨#[]⟩]), 2, 32) := by kernel_rfl

end Go.Proofs.YtogjhcmaapplgaaDoor
