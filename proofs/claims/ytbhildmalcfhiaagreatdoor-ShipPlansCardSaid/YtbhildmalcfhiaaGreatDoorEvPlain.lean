/-
  Outputs as a map by path; the addresses of what differs between two sites, plainly.
-/
import Derived.Test.YtbhildmalcfhiaaGreatDoorOutsQ
import Derived.Test.YtbhildmalcfhiaaGreatDoorStrMap
import Derived.Test.YtbhildmalcfhiaaGreatDoorReadPlain
import Derived.Sort.Walk0
import Derived.Sort.KeysCollected
namespace Go.Proofs.YtbhildmalcfhiaaGreatDoor
open Go.RowKit Go.Deep

theorem leB_lt {x y : ByteArray} (h : Go.Proofs.YtbhildmalcfhiaaGreatDoor.leB x y = false) : y.data.toList < x.data.toList := by
  simp only [Go.Proofs.YtbhildmalcfhiaaGreatDoor.leB, Go.ByteArray.toList_eq, Go.Proofs.bytesLess_eq, Bool.or_eq_false_iff, decide_eq_false_iff_not, beq_eq_false_iff_ne] at h
  rcases List.le_total y.data.toList x.data.toList with h1 | h1
  · exact Std.lt_of_le_of_ne h1 (fun e => h.2 e.symm)
  · exact absurd (Std.lt_of_le_of_ne h1 h.2) h.1

theorem outsFrom_rise {l : List OutV} : ∀ (f k : Nat), l.length - k = f → outsFrom l f k = 0 → ∀ (j : Nat) (x y : OutV), k ≤ j + 1 → l[j]? = some x → l[j + 1]? = some y → x.path.data.toList < y.path.data.toList
  | 0, k, hf, _, j, x, y, hj, hx, hy => absurd (List.getElem?_eq_some_iff.1 hy).1 (by omega)
  | f + 1, k, hf, h, j, x, y, hj, hx, hy => by
    have hk : k < l.length := by omega
    have hz : l[k]? = some l[k] := List.getElem?_eq_getElem hk
    rw [outsFrom, hz] at h
    simp only at h
    by_cases h1 : pathB l[k].path = false
    · rw [if_pos h1] at h; cases h
    rw [if_neg h1] at h
    by_cases h2 : prevBad l l[k].path k = true
    · rw [if_pos h2] at h; cases h
    rw [if_neg h2] at h
    by_cases h3 : (l.drop (k + 1)).any (under l[k]) = true
    · rw [if_pos h3] at h; cases h
    rw [if_neg h3] at h
    by_cases h4 : 200000 < l[k].body.size
    · rw [if_pos h4] at h; cases h
    rw [if_neg h4] at h
    rcases Nat.lt_or_ge k (j + 1) with h5 | h5
    · exact outsFrom_rise f (k + 1) (by omega) h j x y h5 hx hy
    · obtain rfl : k = j + 1 := by omega
      rw [hz] at hy
      cases hy
      rw [prevBad_succ hx] at h2
      exact leB_lt (by simpa using h2)
theorem outs_body {l : List OutV} (h : outsE l = 0) : ∀ x ∈ l, x.body.size ≤ 200000 := by
  have h1 := outsE_len h
  rw [outsE, if_neg (by omega)] at h
  have key : ∀ (f k : Nat), l.length - k = f → outsFrom l f k = 0 → ∀ (j : Nat) (x : OutV), k ≤ j → l[j]? = some x → x.body.size ≤ 200000 := by
    intro f
    induction f with
    | zero => intro k hf _ j x hj hx; exact absurd (List.getElem?_eq_some_iff.1 hx).1 (by omega)
    | succ f ih =>
      intro k hf h j x hj hx
      have hk : k < l.length := by omega
      have hz : l[k]? = some l[k] := List.getElem?_eq_getElem hk
      rw [outsFrom, hz] at h
      simp only at h
      by_cases h1 : pathB l[k].path = false
      · rw [if_pos h1] at h; cases h
      rw [if_neg h1] at h
      by_cases h2 : prevBad l l[k].path k = true
      · rw [if_pos h2] at h; cases h
      rw [if_neg h2] at h
      by_cases h3 : (l.drop (k + 1)).any (under l[k]) = true
      · rw [if_pos h3] at h; cases h
      rw [if_neg h3] at h
      by_cases h4 : 200000 < l[k].body.size
      · rw [if_pos h4] at h; cases h
      rw [if_neg h4] at h
      rcases Nat.lt_or_ge k j with h5 | h5
      · exact ih (k + 1) (by omega) h j x h5 hx
      · obtain rfl : k = j := by omega
        rw [hz] at hx
        cases hx
        omega
  intro x hx
  obtain ⟨j, hj⟩ := List.mem_iff_getElem?.1 hx
  exact key l.length 0 (by omega) h j x (Nat.zero_le _) hj

theorem rise_pair {α : Type} {r : α → α → Prop} (ht : ∀ a b c, r a b → r b c → r a c) : ∀ {l : List α}, (∀ (j : Nat) (x y : α), l[j]? = some x → l[j + 1]? = some y → r x y) → l.Pairwise r
  | [], _ => List.Pairwise.nil
  | a :: l, h => by
    have ih := rise_pair ht (l := l) (fun j x y hx hy => h (j + 1) x y (by simpa using hx) (by simpa using hy))
    refine List.pairwise_cons.2 ⟨?_, ih⟩
    cases l with
    | nil => intro x hx; cases hx
    | cons b r' =>
      have hab := h 0 a b rfl rfl
      intro x hx
      rcases List.mem_cons.1 hx with rfl | hx
      · exact hab
      · exact ht _ _ _ hab ((List.pairwise_cons.1 ih).1 x hx)
theorem outs_rise {l : List OutV} (h : outsE l = 0) : l.Pairwise (fun x y => x.path.data.toList < y.path.data.toList) := by
  have h1 := outsE_len h
  rw [outsE, if_neg (by omega)] at h
  exact rise_pair (r := fun x y : OutV => x.path.data.toList < y.path.data.toList) (fun a b c h1 h2 => List.lt_trans h1 h2) (fun j x y hx hy => outsFrom_rise l.length 0 (by omega) h j x y (Nat.zero_le _) hx hy)
theorem outs_apart {l : List OutV} (h : outsE l = 0) : l.Pairwise (fun x y => x.path.data.toList ≠ y.path.data.toList) :=
  (outs_rise h).imp (fun {a b} hab e => by rw [e] at hab; exact absurd hab (List.lt_irrefl _))

/-- what a path holds -/
def bodyP (l : List OutV) (s : List UInt8) : Option (List UInt8) := (l.find? (fun o => o.path.data.toList == s)).map (·.body.data.toList)
/-- the map of bodies as the loop makes it -/
def mapF (l : List OutV) : List UInt8 → Option (List UInt8) := l.foldl (fun f o => putF f o.path.data.toList o.body.data.toList) (fun _ => none)
theorem mapF_snoc (l : List OutV) (o : OutV) : mapF (l ++ [o]) = putF (mapF l) o.path.data.toList o.body.data.toList := by
  simp [mapF]
theorem mapF_take {l : List OutV} {j : Nat} {o : OutV} (h : l[j]? = some o) : mapF (l.take (j + 1)) = putF (mapF (l.take j)) o.path.data.toList o.body.data.toList := by
  obtain ⟨hj, rfl⟩ := List.getElem?_eq_some_iff.1 h
  rw [List.take_succ_eq_append_getElem hj, mapF_snoc]
theorem mapF_eq {l : List OutV} (h : l.Pairwise (fun x y => x.path.data.toList ≠ y.path.data.toList)) (s : List UInt8) : mapF l s = bodyP l s := by
  have key : ∀ k, k ≤ l.length → mapF (l.take k) s = bodyP (l.take k) s := by
    intro k
    induction k with
    | zero => intro _; rfl
    | succ k ih =>
      intro hk
      have hk' : k < l.length := by omega
      have ih := ih (by omega)
      rw [mapF_take (List.getElem?_eq_getElem hk'), bodyP, List.take_succ_eq_append_getElem hk', List.find?_append]
      by_cases hs : s = l[k].path.data.toList
      · rw [hs, putF_same]
        have hn : (l.take k).find? (fun o => o.path.data.toList == l[k].path.data.toList) = none := by
          rw [List.find?_eq_none]
          intro x hx
          obtain ⟨i, hi⟩ := List.mem_iff_getElem?.1 hx
          rw [List.getElem?_take] at hi
          split at hi
          · rename_i hik
            have h1 := List.pairwise_iff_getElem.1 h i k (by omega) hk' hik
            rw [List.getElem?_eq_getElem (by omega)] at hi
            cases hi
            simpa using h1
          · cases hi
        rw [hn]
        simp
      · rw [putF_ne _ _ hs, ih, bodyP]
        have hn : (l[k].path.data.toList == s) = false := beq_eq_false_iff_ne.2 (fun e => hs e.symm)
        cases hf : (l.take k).find? (fun o => o.path.data.toList == s) with
        | none => simp [hn]
        | some x => simp
  have := key l.length (Nat.le_refl _)
  rwa [List.take_length] at this

def goneB (m : List OutV) (o : OutV) : Bool := bodyP m o.path.data.toList != some o.body.data.toList
def freshB (m : List OutV) (o : OutV) : Bool := (bodyP m o.path.data.toList).isNone
def addrO (o : OutV) : List UInt8 := (addrS o.path).data.toList
def evL (a b : List OutV) : List (List UInt8) := (a.filter (goneB b)).map addrO ++ (b.filter (freshB a)).map addrO
def evS (a b : List OutV) : List (List UInt8) := (evL a b).mergeSort fun x y => decide (x ≤ y)

theorem outs_paths {l : List OutV} (h : outsE l = 0) : ∀ x ∈ l, pathB x.path = true := fun x hx => by
  obtain ⟨j, hj⟩ := List.mem_iff_getElem?.1 hx
  exact outs_path h hj
theorem bodyP_some {l : List OutV} {x : OutV} (h : l.Pairwise (fun x y => x.path.data.toList ≠ y.path.data.toList)) (hx : x ∈ l) : bodyP l x.path.data.toList = some x.body.data.toList := by
  induction l with
  | nil => cases hx
  | cons a r ih =>
    obtain ⟨h1, h2⟩ := List.pairwise_cons.1 h
    rcases List.mem_cons.1 hx with rfl | hx
    · simp [bodyP]
    · have hne := h1 x hx
      have e : (a.path.data.toList == x.path.data.toList) = false := beq_eq_false_iff_ne.2 hne
      have := ih h2 hx
      rw [bodyP] at this ⊢
      rw [List.find?_cons, e]
      exact this
/-- once each, of a sorted list -/
def onceL (l : List (List UInt8)) : Nat → List (List UInt8)
  | 0 => []
  | k + 1 => match l[k]? with
    | none => onceL l k
    | some s => if k = 0 ∨ l[k - 1]? ≠ some s then onceL l k ++ [s] else onceL l k
end Go.Proofs.YtbhildmalcfhiaaGreatDoor
