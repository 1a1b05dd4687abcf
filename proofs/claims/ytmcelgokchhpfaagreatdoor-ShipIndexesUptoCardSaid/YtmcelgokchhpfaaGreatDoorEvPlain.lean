/-
  Outputs as a map by path; the addresses of what differs between two sites, plainly.
-/
import Derived.Test.YtmcelgokchhpfaaGreatDoorOutsQ
import Derived.Test.YtmcelgokchhpfaaGreatDoorStrMap
import Derived.Test.YtmcelgokchhpfaaGreatDoorReadPlain
import Derived.Sort.Walk0
import Derived.Sort.KeysCollected
namespace Go.Proofs.YtmcelgokchhpfaaGreatDoor
open Go.RowKit Go.Deep

theorem leB_lt {x y : ByteArray} (h : Go.Proofs.YtmcelgokchhpfaaGreatDoor.leB x y = false) : y.data.toList < x.data.toList := by
  simp only [Go.Proofs.YtmcelgokchhpfaaGreatDoor.leB, Go.ByteArray.toList_eq, Go.Proofs.bytesLess_eq, Bool.or_eq_false_iff, decide_eq_false_iff_not, beq_eq_false_iff_ne] at h
  rcases List.le_total y.data.toList x.data.toList with h1 | h1
  · exact Std.lt_of_le_of_ne h1 (fun e => h.2 e.symm)
  · exact absurd (Std.lt_of_le_of_ne h1 h.2) h.1

theorem outsFrom_rise {l : List OutV} : ∀ (f k : Nat), l.length - k = f → outsFrom l f k = 0 → ∀ (j : Nat) (x y : OutV), k ≤ j + 1 → l[j]? = some x → l[j + 1]? = some y → x.path.data.toList < y.path.data.toList
  | 0, k, hf, _, j, x, y, hj, hx, hy => absurd (List.getElem?_eq_some_iff.1 hy).1 (by omega)
  | f + 1, k, hf, h, j, x, y, hj, hx, hy => by
    have hk : k < l.length := by omega
    have hz : l[k]? = some l[k] := List.getElem?_eq_getElem hk
    rw [outsFrom, hz] at h
    simp only at h
    by_cases h1 : pathB l[k].path = false
    · rw [if_pos h1] at h; cases h
    rw [if_neg h1] at h
    by_cases h2 : prevBad l l[k].path k = true
    · rw [if_pos h2] at h; cases h
    rw [if_neg h2] at h
    by_cases h3 : (l.drop (k + 1)).any (under l[k]) = true
    · rw [if_pos h3] at h; cases h
    rw [if_neg h3] at h
    by_cases h4 : 200000 < l[k].body.size
    · rw [if_pos h4] at h; cases h
    rw [if_neg h4] at h
    rcases Nat.lt_or_ge k (j + 1) with h5 | h5
    · exact outsFrom_rise f (k + 1) (by omega) h j x y h5 hx hy
    · obtain rfl : k = j + 1 := by omega
      rw [hz] at hy
      cases hy
      rw [prevBad_succ hx] at h2
      exact leB_lt (by simpa using h2)
theorem outs_body {l : List OutV} (h : outsE l = 0) : ∀ x ∈ l, x.body.size ≤ 200000 := by
  have h1 := outsE_len h
  rw [outsE, if_neg (by omega)] at h
  have key : ∀ (f k : Nat), l.length - k = f → outsFrom l f k = 0 → ∀ (j : Nat) (x : OutV), k ≤ j → l[j]? = some x → x.body.size ≤ 200000 := by
    intro f
    induction f with
    | zero => intro k hf _ j x hj hx; exact absurd (List.getElem?_eq_some_iff.1 hx).1 (by omega)
    | succ f ih =>
      intro k hf h j x hj hx
      have hk : k < l.length := by omega
      have hz : l[k]? = some l[k] := List.getElem?_eq_getElem hk
      rw [outsFrom, hz] at h
      simp only at h
      by_cases h1 : pathB l[k].path = false
      · rw [if_pos h1] at h; cases h
      rw [if_neg h1] at h
      by_cases h2 : prevBad l l[k].path k = true
      · rw [if_pos h2] at h; cases h
      rw [if_neg h2] at h
      by_cases h3 : (l.drop (k + 1)).any (under l[k]) = true
      · rw [if_pos h3] at h; cases h
      rw [if_neg h3] at h
      by_cases h4 : 200000 < l[k].body.size
      · rw [if_pos h4] at h; cases h
      rw [if_neg h4] at h
      rcases Nat.lt_or_ge k j with h5 | h5
      · exact ih (k + 1) (by omega) h j x h5 hx
      · obtain rfl : k = j := by omega
        rw [hz] at hx
        cases hx
        omega
  intro x hx
  obtain ⟨j, hj⟩ := List.mem_iff_getElem?.1 hx
  exact key l.length 0 (by omega) h j x (Nat.zero_le _) hj

theorem rise_pair {α : Type} {r : α → α → Prop} (ht : ∀ a b c, r a b → r b c → r a c) : ∀ {l : List α}, (∀ (j : Nat) (x y : α), l[j]? = some x → l[j + 1]? = some y → r x y) → l.Pairwise r
  | [], _ => List.Pairwise.nil
  | a :: l, h => by
    have ih := rise_pair ht (l := l) (fun j x y hx hy => h (j + 1) x y (by simpa using hx) (by simpa using hy))
    refine List.pairwise_cons.2 ⟨?_, ih⟩
    cases l with
    | nil => intro x hx; cases hx
    | cons b r' =>
      have hab := h 0 a b rfl rfl
      intro x hx
      rcases List.mem_cons.1 hx with rfl | hx
      · exact hab
      · exact ht _ _ _ hab ((List.pairwise_cons.1 ih).1 x hx)
theorem outs_rise {l : List OutV} (h : outsE l = 0) : l.Pairwise (fun x y => x.path.data.toList < y.path.data.toList) := by
  have h1 := outsE_len h
  rw [outsE, if_neg (by omega)] at h
  exact rise_pair (r := fun x y : OutV => x.path.data.toList < y.path.data.toList) (fun a b c h1 h2 => List.lt_trans h1 h2) (fun j x y hx hy => outsFrom_rise l.length 0 (by omega) h j x y (Nat.zero_le _) hx hy)
theorem outs_apart {l : List OutV} (h : outsE l = 0) : l.Pairwise (fun x y => x.path.data.toList ≠ y.path.data.toList) :=
  (outs_rise h).imp (fun {a b} hab e => by rw [e] at hab; exact absurd hab (List.lt_irrefl _))

/-- what a path holds -/
def bodyP (l : List OutV) (s : List UInt8) : Option (List UInt8) := (l.find? (fun o => o.path.data.toList == s)).map (·.body.data.toList)
/-- the map of bodies as the loop makes it -/
def mapF (l : List OutV) : List UInt8 → Option (List UInt8) := l.foldl (fun f o => putF f o.path.data.toList o.body.data.toList) (fun _ => none)
theorem mapF_snoc (l : List OutV) (o : OutV) : mapF (l ++ [o]) = putF (mapF l) o.path.data.toList o.body.data.toList := by
  simp [mapF]
theorem mapF_take {l : List OutV} {j : Nat} {o : OutV} (h : l[j]? = some o) : mapF (l.take (j + 1)) = putF (mapF (l.take j)) o.path.data.toList o.body.data.toList := by
  obtain ⟨hj, rfl⟩ := List.getElem?_eq_some_iff.1 h
  rw [List.take_succ_eq_append_getElem hj, mapF_snoc]
theorem mapF_eq {l : List OutV} (h : l.Pairwise (fun x y => x.path.data.toList ≠ y.path.data.toList)) (s : List UInt8) : mapF l s = bodyP l s := by
  have key : ∀ k, k ≤ l.length → mapF (l.take k) s = bodyP (l.take k) s := by
    intro k
    induction k with
    | zero => intro _; rfl
    | succ k ih =>
      intro hk
      have hk' : k < l.length := by omega
      have ih := ih (by omega)
      rw [mapF_take (List.getElem?_eq_getElem hk'), bodyP, List.take_succ_eq_append_getElem hk', List.find?_append]
      by_cases hs : s = l[k].path.data.toList
      · rw [hs, putF_same]
        have hn : (l.take k).find? (fun o => o.path.data.toList == l[k].path.data.toList) = none := by
          rw [List.find?_eq_none]
          intro x hx
          obtain ⟨i, hi⟩ := List.mem_iff_getElem?.1 hx
          rw [List.getElem?_take] at hi
          split at hi
          · rename_i hik
            have h1 := List.pairwise_iff_getElem.1 h i k (by omega) hk' hik
            rw [List.getElem?_eq_getElem (by omega)] at hi
            cases hi
            simpa using h1
          · cases hi
        rw [hn]
        simp
      · rw [putF_ne _ _ hs, ih, bodyP]
        have hn : (l[k].path.data.toList == s) = false := beq_eq_false_iff_ne.2 (fun e => hs e.symm)
        cases hf : (l.take k).find? (fun o => o.path.data.toList == s) with
        | none => simp [hn]
        | some x => simp
  have := key l.length (Nat.le_refl _)
  rwa [List.take_length] at this

def goneB (m : List OutV) (o : OutV) : Bool := bodyP m o.path.data.toList != some o.body.data.toList
def freshB (m : List OutV) (o : OutV) : Bool := (bodyP m o.path.data.toList).isNone
def addrO (o : OutV) : List UInt8 := (addrS o.path).data.toList
def evL (a b : List OutV) : List (List UInt8) := (a.filter (goneB b)).map addrO ++ (b.filter (freshB a)).map addrO
def evS (a b : List OutV) : List (List UInt8) := (evL a b).mergeSort fun x y => decide (x ≤ y)

theorem part_nil : partL [] = false := rfl
theorem split_last (c : UInt8) : ∀ u : List UInt8, ∃ p r, splitC c (u ++ [c]) = p :: r ∧ [] ∈ r
  | [] => ⟨[], [[]], by simp [splitC], by simp⟩
  | b :: u => by
    obtain ⟨p, r, h1, h2⟩ := split_last c u
    rw [List.cons_append, splitC, h1]
    by_cases h : b = c
    · rw [if_pos h]; exact ⟨_, _, rfl, List.mem_cons_of_mem _ h2⟩
    · rw [if_neg h]; exact ⟨_, _, rfl, h2⟩
theorem path_noslash {s : ByteArray} (h : pathB s = true) : ∀ u, s.data.toList ≠ u ++ [47] := by
  intro u hu
  simp only [pathB, Bool.and_eq_true, List.all_eq_true] at h
  have h1 := split_map 47 s
  rw [hu] at h1
  obtain ⟨p, r, h2, h3⟩ := split_last 47 u
  rw [h2] at h1
  have h4 : [] ∈ (Lib.splitB ⟨#[47]⟩ 0 (Lib.countB s ⟨#[47]⟩) s).map (·.data.toList) := by rw [h1]; exact List.mem_cons_of_mem _ h3
  obtain ⟨x, hx, hx2⟩ := List.mem_map.1 h4
  have h5 := h.2 x hx
  rw [hx2, part_nil] at h5
  cases h5
theorem path_nonempty {s : ByteArray} (h : pathB s = true) : s.data.toList ≠ [] := by
  intro e
  have : s.size = 0 := by rw [← size_toList, e]; rfl
  rw [path_empty this] at h
  cases h

theorem addr_inj {s t : ByteArray} (hs : pathB s = true) (ht : pathB t = true) (h : (addrS s).data.toList = (addrS t).data.toList) : s = t := by
  rw [addrS_yes hs, addrS_yes ht] at h
  have sfx : ∀ {x : List UInt8}, Lib.hasSuffix (47 :: x) (47 :: idx) = true → ∃ u, 47 :: x = u ++ 47 :: idx ∧ addrL x = u ++ [47] := by
    intro x hx
    have h3 : (47 :: idx) <:+ (47 :: x) := by simpa [Lib.hasSuffix] using hx
    obtain ⟨u, hu⟩ := h3
    refine ⟨u, hu.symm, ?_⟩
    rw [addrL, if_pos hx, ← hu]
    have hl : x.length = u.length + 10 := by
      have := congrArg List.length hu
      simp [idx] at this
      omega
    rw [hl, show u.length + 10 - 9 = u.length + 1 by omega]
    rw [show (47 : UInt8) :: idx = [47] ++ idx from rfl, ← List.append_assoc, List.take_append_of_le_length (by simp), List.take_of_length_le (by simp)]
  have nsl : ∀ {z : ByteArray} {u : List UInt8}, pathB z = true → 47 :: z.data.toList = u ++ [47] → False := by
    intro z u hz he
    cases u with
    | nil => simp at he; exact path_nonempty hz (by rw [he])
    | cons a u => simp only [List.cons_append, List.cons.injEq] at he; exact path_noslash hz u he.2
  refine Go.WideShapes.bytes_inj ?_
  by_cases h1 : Lib.hasSuffix (47 :: s.data.toList) (47 :: idx) = true
  · obtain ⟨u, hu, hau⟩ := sfx h1
    by_cases h2 : Lib.hasSuffix (47 :: t.data.toList) (47 :: idx) = true
    · obtain ⟨v, hv, hav⟩ := sfx h2
      rw [hau, hav] at h
      have huv : u = v := List.append_cancel_right h
      have h3 : (47 : UInt8) :: s.data.toList = 47 :: t.data.toList := by rw [hu, hv, huv]
      exact (List.cons.injEq .. ▸ h3).2
    · rw [hau, show addrL t.data.toList = 47 :: t.data.toList by rw [addrL, if_neg h2]] at h
      exact (nsl ht h.symm).elim
  · rw [show addrL s.data.toList = 47 :: s.data.toList by rw [addrL, if_neg h1]] at h
    by_cases h2 : Lib.hasSuffix (47 :: t.data.toList) (47 :: idx) = true
    · obtain ⟨v, hv, hav⟩ := sfx h2
      rw [hav] at h
      exact (nsl hs h).elim
    · rw [show addrL t.data.toList = 47 :: t.data.toList by rw [addrL, if_neg h2]] at h
      exact (List.cons.injEq .. ▸ h).2

theorem outs_paths {l : List OutV} (h : outsE l = 0) : ∀ x ∈ l, pathB x.path = true := fun x hx => by
  obtain ⟨j, hj⟩ := List.mem_iff_getElem?.1 hx
  exact outs_path h hj
theorem bodyP_some {l : List OutV} {x : OutV} (h : l.Pairwise (fun x y => x.path.data.toList ≠ y.path.data.toList)) (hx : x ∈ l) : bodyP l x.path.data.toList = some x.body.data.toList := by
  induction l with
  | nil => cases hx
  | cons a r ih =>
    obtain ⟨h1, h2⟩ := List.pairwise_cons.1 h
    rcases List.mem_cons.1 hx with rfl | hx
    · simp [bodyP]
    · have hne := h1 x hx
      have e : (a.path.data.toList == x.path.data.toList) = false := beq_eq_false_iff_ne.2 hne
      have := ih h2 hx
      rw [bodyP] at this ⊢
      rw [List.find?_cons, e]
      exact this
theorem ev_nodup {a b : List OutV} (ha : outsE a = 0) (hb : outsE b = 0) : (evL a b).Pairwise (· ≠ ·) := by
  have one : ∀ {l : List OutV} (p : OutV → Bool), outsE l = 0 → ((l.filter p).map addrO).Pairwise (· ≠ ·) := by
    intro l p hl
    rw [List.pairwise_map]
    refine List.Pairwise.imp_of_mem ?_ ((outs_apart hl).filter p)
    intro x y hx hy hne he
    exact hne (by rw [addr_inj (outs_paths hl x (List.mem_filter.1 hx).1) (outs_paths hl y (List.mem_filter.1 hy).1) he])
  rw [evL, List.pairwise_append]
  refine ⟨one _ ha, one _ hb, ?_⟩
  intro s hs t ht he
  obtain ⟨x, hx, rfl⟩ := List.mem_map.1 hs
  obtain ⟨y, hy, rfl⟩ := List.mem_map.1 ht
  obtain ⟨hx1, hx2⟩ := List.mem_filter.1 hx
  obtain ⟨hy1, hy2⟩ := List.mem_filter.1 hy
  have hp := addr_inj (outs_paths ha x hx1) (outs_paths hb y hy1) he
  have h3 := bodyP_some (outs_apart ha) hx1
  rw [freshB, ← hp, h3] at hy2
  cases hy2

/-- once each, of a sorted list -/
def onceL (l : List (List UInt8)) : Nat → List (List UInt8)
  | 0 => []
  | k + 1 => match l[k]? with
    | none => onceL l k
    | some s => if k = 0 ∨ l[k - 1]? ≠ some s then onceL l k ++ [s] else onceL l k
theorem onceL_all {l : List (List UInt8)} (h : l.Pairwise (· ≠ ·)) : ∀ k, k ≤ l.length → onceL l k = l.take k
  | 0, _ => rfl
  | k + 1, hk => by
    have hk' : k < l.length := by omega
    rw [onceL, List.getElem?_eq_getElem hk']
    simp only
    rw [if_pos, onceL_all h k (by omega), List.take_succ_eq_append_getElem hk']
    rcases Nat.eq_zero_or_pos k with h0 | h0
    · exact Or.inl h0
    · refine Or.inr (fun he => ?_)
      rw [List.getElem?_eq_getElem (by omega)] at he
      have := List.pairwise_iff_getElem.1 h (k - 1) k (by omega) hk' (by omega)
      exact this (by simpa using he)
theorem evS_once {a b : List OutV} (ha : outsE a = 0) (hb : outsE b = 0) : onceL (evS a b) (evS a b).length = evS a b := by
  rw [onceL_all _ _ (Nat.le_refl _), List.take_length]
  have hp := (List.mergeSort_perm (evL a b) (fun x y => decide (x ≤ y))).symm
  exact (hp.pairwise_iff (fun {_ _} hne => Ne.symm hne)).1 (ev_nodup ha hb)

end Go.Proofs.YtmcelgokchhpfaaGreatDoor
