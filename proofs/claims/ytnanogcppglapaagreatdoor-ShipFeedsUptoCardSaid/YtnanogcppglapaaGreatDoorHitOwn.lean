/-
  Hits in rows of the call's own.
-/
import Derived.Test.YtnanogcppglapaaGreatDoorIdxPlain
import Derived.Test.YtnanogcppglapaaGreatDoorInsSort
import Derived.Sort.Statements
import Derived.Test.YtnanogcppglapaaGreatDoorOwn
import Derived.Test.YtnanogcppglapaaGreatDoorEvents
import Derived.Test.YtnanogcppglapaaGreatDoorRowSwap
import Derived.Test.YtnanogcppglapaaGreatDoorRowOps
namespace Go.Proofs.YtnanogcppglapaaGreatDoor
open Go.RowKit Go.Deep

structure HitV where
  addr : ByteArray
  score : Int
instance : Inhabited HitV := ⟨⟨⟨#[]⟩, 0⟩⟩
def hAddr (x : HitV) : List UInt8 := x.addr.data.toList
/-- one hit comes before another one -/
def HitR (x y : HitV) : Prop := x.score > y.score ∨ (x.score = y.score ∧ hAddr x < hAddr y)
def ltH (x y : HitV) : Bool := decide (x.score > y.score) || (decide (x.score = y.score) && decide (hAddr x < hAddr y))
theorem ltH_iff {x y : HitV} : ltH x y = true ↔ HitR x y := by simp [ltH, HitR]
theorem list_lt_or {a b : List UInt8} (h : ¬ a < b) : b < a ∨ a = b := by
  rcases List.le_total b a with h1 | h1
  · by_cases e : a = b
    · exact Or.inr e
    · exact Or.inl (Std.lt_of_le_of_ne h1 (fun x => e x.symm))
  · by_cases e : a = b
    · exact Or.inr e
    · exact absurd (Std.lt_of_le_of_ne h1 e) h
theorem HitR.irrefl (x : HitV) : ¬ HitR x x := by
  rintro (h | ⟨_, h⟩)
  · omega
  · exact List.lt_irrefl _ h
theorem HitR.trans {x y z : HitV} (h1 : HitR x y) (h2 : HitR y z) : HitR x z := by
  rcases h1 with h1 | ⟨h1, h3⟩ <;> rcases h2 with h2 | ⟨h2, h4⟩
  · left; omega
  · left; omega
  · left; omega
  · right; exact ⟨by omega, List.lt_trans h3 h4⟩
theorem HitR.asymm {x y : HitV} (h1 : HitR x y) (h2 : HitR y x) : False := HitR.irrefl x (h1.trans h2)
theorem HitR.total {x y : HitV} (h : ¬ HitR x y) : HitR y x ∨ (x.score = y.score ∧ hAddr x = hAddr y) := by
  by_cases h1 : x.score = y.score
  · rcases list_lt_or (fun h2 => h (Or.inr ⟨h1, h2⟩)) with h2 | h2
    · exact Or.inl (Or.inr ⟨h1.symm, h2⟩)
    · exact Or.inr ⟨h1, h2⟩
  · left; left
    have : ¬ x.score > y.score := fun h2 => h (Or.inl h2)
    omega
theorem swo_ltH : Go.Sort.SWO ltH where
  irrefl := fun x => by
    cases h : ltH x x with
    | false => rfl
    | true => exact absurd (ltH_iff.1 h) (HitR.irrefl x)
  trans := fun x y z h1 h2 => ltH_iff.2 ((ltH_iff.1 h1).trans (ltH_iff.1 h2))
  ntrans := fun x y z h1 h2 => by
    have h3 : ¬ HitR x y := fun h => by rw [ltH_iff.2 h] at h1; cases h1
    have h4 : ¬ HitR y z := fun h => by rw [ltH_iff.2 h] at h2; cases h2
    cases h : ltH x z with
    | false => rfl
    | true =>
      exfalso
      have h5 := ltH_iff.1 h
      rcases HitR.total h3 with h6 | ⟨h6, h7⟩
      · exact h4 (h6.trans h5)
      · rcases HitR.total h4 with h8 | ⟨h8, h9⟩
        · exact h3 (h5.trans h8)
        · rcases h5 with h5 | ⟨_, h5⟩
          · omega
          · rw [h7, h9] at h5; exact List.lt_irrefl _ h5
/-- hits of different addresses -/
def HApart (l : List HitV) : Prop := l.Pairwise (fun x y => hAddr x ≠ hAddr y)
theorem HApart.perm {l l' : List HitV} (h : HApart l) (hp : l.Perm l') : HApart l' := (hp.pairwise_iff (fun {_ _} hne => Ne.symm hne)).1 h
theorem hits_sorted {l : List HitV} (h1 : HApart l) (h2 : l.Pairwise (fun x y => ¬ HitR y x)) : l.Pairwise HitR := by
  have h3 := h1.and h2
  exact h3.imp (fun {x y} h => by
    rcases HitR.total h.2 with h4 | ⟨_, h4⟩
    · exact h4
    · exact absurd h4.symm h.1)
theorem hits_unique : ∀ {l1 l2 : List HitV}, l1.Pairwise HitR → l2.Pairwise HitR → l1.Perm l2 → l1 = l2
  | [], l2, _, _, hp => by rw [List.nil_perm.1 hp]
  | x :: l1, [], _, _, hp => absurd hp.length_eq (by simp)
  | x :: l1, y :: l2, h1, h2, hp => by
    rw [List.pairwise_cons] at h1 h2
    have hx : x ∈ y :: l2 := hp.mem_iff.1 (by simp)
    have hy : y ∈ x :: l1 := hp.mem_iff.2 (by simp)
    have e : x = y := by
      rcases List.mem_cons.1 hx with h | h
      · exact h
      · rcases List.mem_cons.1 hy with h3 | h3
        · exact h3.symm
        · exact absurd (h2.1 x h) (fun h4 => HitR.asymm h4 (h1.1 y h3))
    subst e
    rw [hits_unique h1.2 h2.2 (List.Perm.cons_inv hp)]

/-! ### terms -/
def wordOf (t : TermR) : List UInt8 := t.word.data.toList
def TRise (l : List TermR) : Prop := l.Pairwise (fun x y => wordOf x < wordOf y)
theorem trise_unique : ∀ {l1 l2 : List TermR}, TRise l1 → TRise l2 → (∀ x, x ∈ l1 ↔ x ∈ l2) → l1 = l2
  | [], [], _, _, _ => rfl
  | [], y :: l2, _, _, h => absurd ((h y).2 (by simp)) (by simp)
  | x :: l1, [], _, _, h => absurd ((h x).1 (by simp)) (by simp)
  | x :: l1, y :: l2, h1, h2, h => by
    have g1 := h1; have g2 := h2
    unfold TRise at h1 h2
    rw [List.pairwise_cons] at h1 h2
    have e : x = y := by
      rcases List.mem_cons.1 ((h x).1 (by simp)) with h3 | h3
      · exact h3
      · rcases List.mem_cons.1 ((h y).2 (by simp)) with h4 | h4
        · exact h4.symm
        · exact absurd (List.lt_trans (h2.1 x h3) (h1.1 y h4)) (List.lt_irrefl _)
    subst e
    rw [trise_unique h1.2 h2.2 (fun z => by
      have h5 := h z
      constructor
      · intro hz
        rcases List.mem_cons.1 (h5.1 (List.mem_cons_of_mem _ hz)) with h6 | h6
        · subst h6; exact absurd (h1.1 z hz) (List.lt_irrefl _)
        · exact h6
      · intro hz
        rcases List.mem_cons.1 (h5.2 (List.mem_cons_of_mem _ hz)) with h6 | h6
        · subst h6; exact absurd (h2.1 z hz) (List.lt_irrefl _)
        · exact h6)]
/-- the terms asked for, one word after the other -/
def askT (T : List TermR) (Q : List (List UInt8)) : List TermR := Q.flatMap (fun s => T.filter (fun t => wordOf t == s))
theorem ask_rise {T : List TermR} (hT : TRise T) : ∀ {Q : List (List UInt8)}, Q.Pairwise (· < ·) → TRise (askT T Q)
  | [], _ => List.Pairwise.nil
  | s :: Q, h => by
    rw [List.pairwise_cons] at h
    show (T.filter (fun t => wordOf t == s) ++ askT T Q).Pairwise _
    rw [List.pairwise_append]
    refine ⟨hT.filter _, ask_rise hT h.2, fun a ha b hb => ?_⟩
    have e1 : wordOf a = s := by simpa using (List.mem_filter.1 ha).2
    obtain ⟨s2, hs2, hb2⟩ := List.mem_flatMap.1 hb
    have e2 : wordOf b = s2 := by simpa using (List.mem_filter.1 hb2).2
    rw [e1, e2]; exact h.1 s2 hs2
theorem ask_same {T : List TermR} (hT : TRise T) {Q : List (List UInt8)} (hQ : Q.Pairwise (· < ·)) (f : TermR → Bool) (hf : ∀ t, f t = true ↔ wordOf t ∈ Q) : askT T Q = T.filter f := by
  refine trise_unique (ask_rise hT hQ) (hT.filter _) (fun t => ?_)
  unfold askT
  rw [List.mem_flatMap, List.mem_filter, hf]
  constructor
  · rintro ⟨s, hs, ht⟩
    obtain ⟨h1, h2⟩ := List.mem_filter.1 ht
    have : wordOf t = s := by simpa using h2
    exact ⟨h1, this ▸ hs⟩
  · rintro ⟨h1, h2⟩
    exact ⟨wordOf t, h2, List.mem_filter.2 ⟨h1, by simp⟩⟩

/-! ### scores -/
/-- how many binary digits a number has -/
def bitsN : Nat → Nat
  | 0 => 0
  | n + 1 => bitsN ((n + 1) / 2) + 1
decreasing_by omega
/-- what the k-th place of a term adds -/
def addK (S : List Int) (W : Nat) (t : TermR) (sc : List Int) (k : Nat) : List Int :=
  let d := (t.docs.getD k 0).toNat
  sc.set d (sc.getD d 0 + (t.many.getD k 0 * 1000 * (W : Int)).tdiv (S.getD d 0 + 10))
def addT (D : Nat) (S : List Int) (sc : List Int) (t : TermR) : List Int := (List.range t.docs.length).foldl (addK S (bitsN (D / t.docs.length)) t) sc
def scoresT (D : Nat) (S : List Int) (T : List TermR) : List Int := T.foldl (addT D S) (List.replicate D 0)
theorem addK_len (S : List Int) (W : Nat) (t : TermR) (sc : List Int) (k : Nat) : (addK S W t sc k).length = sc.length := by simp [addK]
theorem foldK_len (S : List Int) (W : Nat) (t : TermR) : ∀ (l : List Nat) (sc : List Int), (l.foldl (addK S W t) sc).length = sc.length
  | [], _ => rfl
  | k :: l, sc => by rw [List.foldl_cons, foldK_len S W t l, addK_len]
theorem addT_len (D : Nat) (S : List Int) (sc : List Int) (t : TermR) : (addT D S sc t).length = sc.length := foldK_len _ _ _ _ _
theorem foldT_len (D : Nat) (S : List Int) : ∀ (T : List TermR) (sc : List Int), (T.foldl (addT D S) sc).length = sc.length
  | [], _ => rfl
  | t :: T, sc => by rw [List.foldl_cons, foldT_len D S T, addT_len]
theorem scoresT_len (D : Nat) (S : List Int) (T : List TermR) : (scoresT D S T).length = D := by unfold scoresT; rw [foldT_len, List.length_replicate]

/-- the hits, in order of documents -/
def hitsK (Ds : List DocR) (sc : List Int) (k : Nat) : List HitV := (List.range k).filterMap (fun i => if 0 < sc.getD i 0 then (Ds[i]?).map (fun d => ⟨d.addr, sc.getD i 0⟩) else none)
theorem hitsK_succ (Ds : List DocR) (sc : List Int) (k : Nat) : hitsK Ds sc (k + 1) = hitsK Ds sc k ++ (if 0 < sc.getD k 0 then (Ds[k]?).map (fun d => (⟨d.addr, sc.getD k 0⟩ : HitV)) else none).toList := by
  unfold hitsK
  rw [List.range_succ, List.filterMap_append]
  congr 1
theorem hitsK_len (Ds : List DocR) (sc : List Int) (k : Nat) : (hitsK Ds sc k).length ≤ k := by
  have := List.length_filterMap_le (fun i => if 0 < sc.getD i 0 then (Ds[i]?).map (fun d => (⟨d.addr, sc.getD i 0⟩ : HitV)) else none) (List.range k)
  rw [List.length_range] at this
  exact this
/-- documents of rising addresses -/
def DRise (l : List DocR) : Prop := l.Pairwise (fun x y => x.addr.data.toList < y.addr.data.toList)
theorem drise_at {l : List DocR} (h : DRise l) {i j : Nat} {x y : DocR} (hi : l[i]? = some x) (hj : l[j]? = some y) (hij : i < j) : x.addr.data.toList < y.addr.data.toList := by
  obtain ⟨h1, rfl⟩ := List.getElem?_eq_some_iff.1 hi
  obtain ⟨h2, rfl⟩ := List.getElem?_eq_some_iff.1 hj
  exact List.pairwise_iff_getElem.1 h i j h1 h2 hij
theorem hitsK_rise {Ds : List DocR} (h : DRise Ds) (sc : List Int) : ∀ k, (hitsK Ds sc k).Pairwise (fun x y => hAddr x < hAddr y)
  | 0 => List.Pairwise.nil
  | k + 1 => by
    rw [hitsK_succ, List.pairwise_append]
    refine ⟨hitsK_rise h sc k, ?_, fun a ha b hb => ?_⟩
    · split
      · cases Ds[k]? with
        | none => exact List.Pairwise.nil
        | some d => exact List.pairwise_singleton _ _
      · exact List.Pairwise.nil
    · unfold hitsK at ha
      obtain ⟨i, hi, ha2⟩ := List.mem_filterMap.1 ha
      have hik := List.mem_range.1 hi
      split at hb
      · cases hd : Ds[k]? with
        | none => rw [hd] at hb; simp at hb
        | some d =>
          rw [hd] at hb
          simp at hb
          subst hb
          split at ha2
          · cases hd2 : Ds[i]? with
            | none => rw [hd2] at ha2; cases ha2
            | some d2 =>
              rw [hd2] at ha2
              simp at ha2
              subst ha2
              exact drise_at h hd2 hd hik
          · cases ha2
      · simp at hb
theorem rise_apart {l : List HitV} (h : l.Pairwise (fun x y => hAddr x < hAddr y)) : HApart l := h.imp (fun {x y} h e => by rw [e] at h; exact List.lt_irrefl _ h)
end Go.Proofs.YtnanogcppglapaaGreatDoor

namespace Go.Proofs.YtnanogcppglapaaGreatDoor
open Go.RowKit Go.Deep

def hitC (o : HitV) : List Value := [.string o.addr, .int .i64 o.score]
def hitsC (L : List HitV) : List Value := L.flatMap hitC
theorem hitsC_len (L : List HitV) : (hitsC L).length = L.length * 2 := by
  induction L with
  | nil => rfl
  | cons d r ih => simp only [hitsC, List.flatMap_cons, List.length_append, List.length_cons, hitC, List.length_nil] at ih ⊢; omega
theorem hitsC_append (A B : List HitV) : hitsC (A ++ B) = hitsC A ++ hitsC B := by simp [hitsC]
theorem hitsC_snoc (L : List HitV) (d : HitV) : hitsC (L ++ [d]) = hitsC L ++ [.string d.addr, .int .i64 d.score] := by simp [hitsC, hitC]
theorem hitsC_at : ∀ (l : List HitV) (i : Nat) (a : HitV), l[i]? = some a → (hitsC l)[i * 2]? = some (.string a.addr) ∧ (hitsC l)[i * 2 + 1]? = some (.int .i64 a.score)
  | [], i, a, h => by simp at h
  | b :: r, 0, a, h => by
    simp at h
    subst h
    exact ⟨rfl, rfl⟩
  | b :: r, i + 1, a, h => by
    have ih := hitsC_at r i a (by simpa using h)
    rw [show hitsC (b :: r) = hitC b ++ hitsC r from rfl, List.getElem?_append_right (by simp [hitC]; omega), List.getElem?_append_right (by simp [hitC]; omega)]
    rw [show (i + 1) * 2 - (hitC b).length = i * 2 by simp [hitC]; omega, show (i + 1) * 2 + 1 - (hitC b).length = i * 2 + 1 by simp [hitC]; omega]
    exact ih
theorem hitsC_one (L : List HitV) : ∀ u ∈ hitsC L, u.oneCell' = true := by
  intro u hu
  obtain ⟨o, _, ho⟩ := List.mem_flatMap.1 hu
  simp only [hitC, List.mem_cons, List.not_mem_nil, or_false] at ho
  rcases ho with rfl | rfl <;> rfl
theorem hits_own {w : World} {B : Nat} {L : List HitV} {g c n : Nat} (h : w.ownsRow B 40 2 (.slice (some ⟨g, 0, none⟩) n c) n (hitsC L)) {i : Nat} {x : HitV} (hx : L[i]? = some x) : w.cell? ⟨g, i * 2, none⟩ = some (.string x.addr) ∧ w.cell? ⟨g, i * 2 + 1, none⟩ = some (.int .i64 x.score) := by
  obtain ⟨h3, h4⟩ := hitsC_at L i x hx
  have key : ∀ (j : Nat) (x : Value), (hitsC L)[j]? = some x → w.cell? ⟨g, j, none⟩ = some x := by
    intro j x hx
    rcases h.2 with ⟨h5, h0⟩ | ⟨g', cap, cur, hv, hB, hg, hnc, hm, hsz, htake⟩
    · cases h5
    · cases hv
      rw [cell_of_row w g j cur _ (0, 0) hg]
      rw [← htake, List.getElem?_take] at hx
      split at hx
      · simpa using hx
      · cases hx
  exact ⟨key _ _ h3, key _ _ h4⟩
theorem info_hit : (Tryz.prog.info? 40).map (fun i => (i.zero, i.size, i.bytes)) = some (some (.agg #[.string ⟨#[]⟩, .int .i64 0]), 2, 24) := by kernel_rfl

end Go.Proofs.YtnanogcppglapaaGreatDoor
