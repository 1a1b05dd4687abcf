/-
  append to nil of the first elements of a row of the call's own.
-/
import Derived.Test.YtnanogcppglapaaGreatDoorOwn
import Derived.Maps.AppendAt
import Derived.Laws.AppendOwnNone
namespace Go.Proofs.YtnanogcppglapaaGreatDoor
open Go.RowKit Go.Deep

theorem wpList_copyK {P : Program} {ops : Array Oper} {rest : List Oper} {o : Oper} {a : Act} {Q : Exit → Act → World → Prop} (W : World) (hgd : o.guard = none) (s x : Operand) (t : TypeId)
    (ho : o.op = .call { callee := .builtin .append, args := #[s, x], argTypes := #[t, t] })
    (e : TypeId) (z : Value) (k bytes : Nat) (ht : P.underlying t = some (.slice e)) (hi : (P.info? e).map (fun i => (i.zero, i.size, i.bytes)) = some (some z, k, bytes)) (hzs : z.cells.size = k) (hk : 0 < k)
    (hs : a.eval s = .slice none 0 0) (B0 : Nat) (A : Option Addr) (m n c : Nat) (xs : List Value) (hown : W.ownsRow B0 e k (.slice A n c) n xs) (h1 : ∀ u ∈ xs, u.oneCell' = true) (hmn : m ≤ n)
    (hx : a.eval x = .slice A m c) (hn : m * bytes ≤ 140737488355328) (hn' : m ≤ maxLen)
    (h : ∀ A' c' w', w'.ownsRow W.heap.size e k (.slice A' m c') m (xs.take (m * k)) → Below W.heap.size W w' → wpList P ops Q rest (a.put o.dst (.slice A' m c')) w') :
    wpList P ops Q (o :: rest) a W := by
  obtain ⟨i, hi1, hi2, hi3, hi4⟩ := info_parts hi
  have hlx := hown.1
  rcases hown.2 with ⟨h5, h0⟩ | ⟨g, cap, cur, hv, hB, hg, hnc, hm, hsz, htake⟩
  · cases h5
    obtain rfl : m = 0 := by omega
    refine wpList_append_own_none hgd s x t ho W.heap.size e i k ht hi1 _ 0 [] hs (World.ownsRow_nil W _ e k) hx ?_
    have := h none 0 W (by rw [Nat.zero_mul, List.take_zero]; exact World.ownsRow_nil W _ e k) (Below.refl _ _)
    exact this
  · cases hv
    have hmk : m * k ≤ n * k := Nat.mul_le_mul_right _ hmn
    refine wpList_append_own_at (P := P) (w := W) hgd s x t ho W.heap.size e i z k bytes ht hi1 hi2 hi3 hi4 hzs hk _ 0 [] hs (World.ownsRow_nil W _ e k) ⟨g, 0, none⟩ m c (xs.take (m * k)) hx (by rw [List.length_take]; omega) ?_ (fun u hu => h1 u (List.mem_of_mem_take hu)) (by rw [Nat.zero_add]; exact hn') (by rw [Nat.zero_add]; exact hn) (Nat.le_refl _) ?_
    · intro j u hj
      have hadd : (⟨g, 0, none⟩ : Addr).add j = ⟨g, 0 + j, none⟩ := by unfold Addr.add; split <;> simp_all
      rw [hadd, Nat.zero_add]
      rw [List.getElem?_take] at hj
      split at hj
      · rw [cell_of_row W g j cur _ (0, 0) hg]
        rw [← htake, List.getElem?_take] at hj
        split at hj
        · simpa using hj
        · cases hj
      · cases hj
    · intro v' w' h2 hg' _ _
      rw [Nat.zero_add, List.nil_append] at h2
      obtain ⟨A2, c2, rfl, _, _, _⟩ := own_form h2
      exact h A2 c2 w' h2 (below_of_grown hg' (Nat.le_refl _) (fun g hg => by simp [Value.ownBlock] at hg))
end Go.Proofs.YtnanogcppglapaaGreatDoor
