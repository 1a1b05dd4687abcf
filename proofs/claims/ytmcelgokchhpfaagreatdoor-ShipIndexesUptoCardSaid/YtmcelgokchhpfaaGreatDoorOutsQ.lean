/-
  The contracts on outputs and addresses, at a known answer.
-/
import Derived.Test.YtmcelgokchhpfaaGreatDoorOuts
import Derived.Test.YtmcelgokchhpfaaGreatDoorIdxDocs
namespace Go.Proofs.YtmcelgokchhpfaaGreatDoor
open Go.RowKit Go.Deep

theorem outsE_len {l : List OutV} (h : outsE l = 0) : l.length ≤ 480 := by
  rcases Nat.lt_or_ge 480 l.length with h1 | h1
  · rw [outsE, if_pos h1] at h; cases h
  · exact h1

theorem outsFrom_ok {l : List OutV} : ∀ (f k : Nat), l.length - k = f → outsFrom l f k = 0 → ∀ (j : Nat) (x : OutV), k ≤ j → l[j]? = some x → pathB x.path = true
  | 0, k, hf, _, j, x, hj, hx => absurd (List.getElem?_eq_some_iff.1 hx).1 (by omega)
  | f + 1, k, hf, h, j, x, hj, hx => by
    have hk : k < l.length := by omega
    have hy : l[k]? = some l[k] := List.getElem?_eq_getElem hk
    rw [outsFrom, hy] at h
    simp only at h
    by_cases h1 : pathB l[k].path = false
    · rw [if_pos h1] at h; cases h
    rw [if_neg h1] at h
    by_cases h2 : prevBad l l[k].path k = true
    · rw [if_pos h2] at h; cases h
    rw [if_neg h2] at h
    by_cases h3 : (l.drop (k + 1)).any (under l[k]) = true
    · rw [if_pos h3] at h; cases h
    rw [if_neg h3] at h
    by_cases h4 : 200000 < l[k].body.size
    · rw [if_pos h4] at h; cases h
    rw [if_neg h4] at h
    rcases Nat.lt_or_ge k j with h5 | h5
    · exact outsFrom_ok f (k + 1) (by omega) h j x h5 hx
    · obtain rfl : k = j := by omega
      rw [hy] at hx
      cases hx
      simpa using h1
theorem outs_path {l : List OutV} (h : outsE l = 0) {j : Nat} {x : OutV} (hx : l[j]? = some x) : pathB x.path = true := by
  have h1 := outsE_len h
  rw [outsE, if_neg (by omega)] at h
  exact outsFrom_ok l.length 0 (by omega) h j x (Nat.zero_le _) hx

end Go.Proofs.YtmcelgokchhpfaaGreatDoor
