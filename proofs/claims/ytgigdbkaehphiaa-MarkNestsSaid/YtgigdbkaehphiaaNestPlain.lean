/-
  Plain laws on lists of levels: to which earlier one each belongs, by looking back and by a stack.
-/
import Derived.Test.YtgigdbkaehphiaaBase
namespace Go.Proofs.Ytgigdbkaehphiaa

/-- looking back from k: one more than the place of the last level below x, or 0 -/
def scanN (ls : List Int) (x : Int) : Nat → Nat
  | 0 => 0
  | k + 1 => if x ≤ ls.getD k 0 then scanN ls x k else k + 1

theorem scanN_le (ls : List Int) (x : Int) (k : Nat) : scanN ls x k ≤ k := by
  induction k with
  | zero => simp [scanN]
  | succ k ih => simp only [scanN]; split <;> omega

theorem scanN_skip (ls : List Int) {x y : Int} (h : x ≤ y) (k : Nat) : scanN ls x (scanN ls y k) = scanN ls x k := by
  induction k with
  | zero => simp [scanN]
  | succ k ih =>
    by_cases hy : y ≤ ls.getD k 0
    · have hx : x ≤ ls.getD k 0 := by omega
      simp only [scanN, if_pos hy, if_pos hx, ih]
    · simp only [scanN, if_neg hy]

theorem scanN_pop (ls : List Int) {x : Int} {k : Nat} (h : x ≤ ls.getD k 0) : scanN ls x (k + 1) = scanN ls x (scanN ls (ls.getD k 0) k) := by
  rw [scanN_skip ls h]; simp only [scanN, if_pos h]

theorem scanN_stop (ls : List Int) {x : Int} {k : Nat} (h : ¬ x ≤ ls.getD k 0) : scanN ls x (k + 1) = k + 1 := by
  simp only [scanN, if_neg h]

/-- the stack before level i: the places that are open -/
def chain (ls : List Int) : Nat → List Nat
  | 0 => []
  | i + 1 => chain ls (scanN ls (ls.getD i 0) i) ++ [i]
termination_by n => n
decreasing_by have := scanN_le ls (ls.getD i 0) i; omega

theorem chain_zero (ls : List Int) : chain ls 0 = [] := by rw [chain]
theorem chain_succ (ls : List Int) (i : Nat) : chain ls (i + 1) = chain ls (scanN ls (ls.getD i 0) i) ++ [i] := by rw [chain]

theorem chain_len (ls : List Int) (n : Nat) : (chain ls n).length ≤ n := by
  induction n using Nat.strongRecOn with
  | _ n ih =>
    cases n with
    | zero => rw [chain_zero]; simp
    | succ n =>
      rw [chain_succ]
      have := scanN_le ls (ls.getD n 0) n
      have := ih _ (show scanN ls (ls.getD n 0) n < n + 1 by omega)
      rw [List.length_append, List.length_singleton]
      omega

/-- to which place the level at i belongs -/
def parent (ls : List Int) (i : Nat) : Int := (scanN ls (ls.getD i 0) i : Int) - 1

def parents (ls : List Int) (n : Nat) : List Int := (List.range n).map (parent ls)

theorem parents_succ (ls : List Int) (n : Nat) : parents ls (n + 1) = parents ls n ++ [parent ls n] := by
  simp [parents, List.range_succ]

theorem parents_len (ls : List Int) (n : Nat) : (parents ls n).length = n := by simp [parents]

end Go.Proofs.Ytgigdbkaehphiaa
