/-
  The part of a document at a heading, plainly.
-/
import Derived.Test.YtlganccpgchmeaaDoorIdsPlain
import Derived.Test.YtlganccpgchmeaaDoorClone
import Derived.Test.YtlganccpgchmeaaDoorRowOps
namespace Go.Proofs.YtlganccpgchmeaaDoor
open Go.RowKit Go.Deep

theorem NodesAt.one1 {w : World} {c b o k : Nat} {l : List Node} {kv : Nat → Value} {n : Node} (hlc : l.length ≤ c) (hc : c ≤ maxLen) (hn : l[k]? = some n) (hcell : NodeCells w b (o + k * 6) n (kv k)) (hkid : NodesAt w (kv k) n.kids) :
    NodesAt w (.slice (some ⟨b, o + k * 6, none⟩) 1 (c - k)) [n] := by
  have hk : k < l.length := (List.getElem?_eq_some_iff.1 hn).1
  refine .mk _ (c - k) [n] b (o + k * 6) (fun _ => kv k) (by simp; omega) (by omega) (fun _ => rfl) (fun i x hi => ?_) (fun i x hi => ?_)
  · cases i with
    | zero => simp at hi; subst hi; simpa using hcell
    | succ i => simp at hi
  · cases i with
    | zero => simp at hi; subst hi; exact hkid
    | succ i => simp at hi

theorem NodesAt.pre {w : World} {A : Option Addr} {n c k : Nat} {l : List Node} (h : NodesAt w (.slice A n c) l) (hk : k ≤ l.length) : NodesAt w (.slice A k c) (l.take k) := by
  obtain ⟨A', c', b, o, kv, hv, hlc, hc, hA, hcell, hkid⟩ := h.inv
  cases hv
  have hl : (l.take k).length = k := by rw [List.length_take]; omega
  have := NodesAt.mk (w := w) A c (l.take k) b o kv (by omega) hc (fun hne => hA (by rintro rfl; simp at hne)) (fun i x hi => hcell i x (by rw [List.getElem?_take] at hi; split at hi; exact hi; cases hi)) (fun i x hi => hkid i x (by rw [List.getElem?_take] at hi; split at hi; exact hi; cases hi))
  rw [hl] at this
  exact this

theorem deepB_append : ∀ (a r : List Node) (b i : Nat), deepB (a ++ r) b i = (deepB a b i || deepB r b i)
  | [], r, b, i => by simp [deepB]
  | n :: a, r, b, i => by rw [List.cons_append, deepB_cons, deepB_cons, deepB_append a r]; simp only [Bool.or_assoc]
theorem nodesErr_append : ∀ (a r : List Node) (p : Int), nodesErr (a ++ r) p = 0 → nodesErr a p = 0
  | [], r, p, _ => by rw [nodesErr]
  | n :: a, r, p, h => by
    rw [List.cons_append] at h
    obtain ⟨h1, h2, h3⟩ := nodesErr_at0 h
    rw [nodesErr_cons, if_pos h1, if_pos h2]
    exact nodesErr_append a r p h3
theorem docErr_take {l : List Node} (h : docErr l = 0) (k : Nat) : docErr (l.take k) = 0 := by
  have e := List.take_append_drop k l
  unfold docErr at h ⊢
  by_cases h1 : 4000 < total l
  · rw [if_pos h1] at h; omega
  · rw [if_neg h1] at h
    have ht : total (l.take k) ≤ total l := by rw [← e, total_append, List.take_append_drop]; omega
    rw [if_neg (by omega)]
    by_cases h2 : deepB l 0 0 = true
    · rw [if_pos h2] at h; omega
    · rw [if_neg h2] at h
      have hd : ¬ deepB (l.take k) 0 0 = true := fun hx => h2 (by rw [← e, deepB_append, hx]; rfl)
      rw [if_neg hd]
      exact nodesErr_append _ (l.drop k) 0 (by rw [e]; exact h)

/-- how many headings stand ahead of block i -/
def countH (l : List Node) (i : Nat) : Nat := (headsL (l.take i)).length
theorem countH_zero (l : List Node) : countH l 0 = 0 := by unfold countH; rw [List.take_zero, headsL_nil]; rfl
theorem countH_succ {l : List Node} {i : Nat} {n : Node} (h : l[i]? = some n) : countH l (i + 1) = countH l i + (headsN n).length := by
  unfold countH
  rw [headsL_take h, List.length_append]
theorem countH_le (l : List Node) (i : Nat) : countH l i ≤ (headsL l).length := by
  have : headsL l = headsL (l.take i) ++ headsL (l.drop i) := by rw [← headsL_append, List.take_append_drop]
  rw [this, List.length_append]; unfold countH; omega
theorem countH_lt {l : List Node} {i : Nat} {n : Node} (h : l[i]? = some n) (hk : n.kind = 1) : countH l i < (headsL l).length := by
  have h1 := countH_succ h
  have h2 := countH_le l (i + 1)
  have h3 : 1 ≤ (headsN n).length := by unfold headsN; rw [if_pos hk, List.length_append]; simp
  omega
theorem heads_one (n : Node) : headsL [n] = headsN n := by rw [headsL_cons, headsL_nil, List.append_nil]
theorem headsN_none {n : Node} : (headsN n).length ≤ 1 + total n.kids := by
  have := heads_len n.kids
  unfold headsN
  rw [List.length_append]
  split <;> simp <;> omega

/-- block i is a heading with that id -/
def HitAt (l : List Node) (s : List UInt8) (i : Nat) : Prop := ∃ n, l[i]? = some n ∧ n.kind = 1 ∧ (idsL (headsL l))[countH l i]? = some s
def FirstH (l : List Node) (s : List UInt8) (i : Nat) : Prop := HitAt l s i ∧ ∀ j, j < i → ¬ HitAt l s j
theorem FirstH.unique {l : List Node} {s : List UInt8} {a b : Nat} (h : FirstH l s a) (k : FirstH l s b) : a = b := by
  rcases Nat.lt_trichotomy a b with h1 | h1 | h1
  · exact absurd h.1 (k.2 a h1)
  · exact h1
  · exact absurd k.1 (h.2 b h1)
def StopK (l : List Node) (lv : Int) (k : Nat) : Prop := ∃ n, l[k]? = some n ∧ n.kind = 1 ∧ n.level ≤ lv
def EndH (l : List Node) (i : Nat) (lv : Int) (k : Nat) : Prop := i < k ∧ k ≤ l.length ∧ (∀ j, i < j → j < k → ¬ StopK l lv j) ∧ (k = l.length ∨ StopK l lv k)
theorem EndH.unique {l : List Node} {i a b : Nat} {lv : Int} (h : EndH l i lv a) (k : EndH l i lv b) : a = b := by
  obtain ⟨a1, a2, a3, a4⟩ := h
  obtain ⟨b1, b2, b3, b4⟩ := k
  rcases Nat.lt_trichotomy a b with h1 | h1 | h1
  · rcases a4 with h2 | h2
    · omega
    · exact absurd h2 (b3 a a1 h1)
  · exact h1
  · rcases b4 with h2 | h2
    · omega
    · exact absurd h2 (a3 b b1 h1)

theorem NodesAt.mid {w : World} {c b o i k : Nat} {l : List Node} {kv : Nat → Value} (hlc : l.length ≤ c) (hc : c ≤ maxLen) (hi : i < k) (hk : k ≤ l.length) (hcell : ∀ (j : Nat) (n : Node), l[j]? = some n → NodeCells w b (o + j * 6) n (kv j)) (hkid : ∀ (j : Nat) (n : Node), l[j]? = some n → NodesAt w (kv j) n.kids) :
    NodesAt w (.slice (some ⟨b, o + i * 6, none⟩) (k - i) (c - i)) ((l.drop i).take (k - i)) := by
  have hl : ((l.drop i).take (k - i)).length = k - i := by rw [List.length_take, List.length_drop]; omega
  have hg : ∀ (j : Nat) (x : Node), ((l.drop i).take (k - i))[j]? = some x → l[i + j]? = some x := by
    intro j x hx
    rw [List.getElem?_take] at hx
    split at hx
    · rwa [List.getElem?_drop] at hx
    · cases hx
  have := NodesAt.mk (w := w) (some ⟨b, o + i * 6, none⟩) (c - i) ((l.drop i).take (k - i)) b (o + i * 6) (fun j => kv (i + j)) (by omega) (by omega) (fun _ => rfl)
    (fun j x hx => by have := hcell (i + j) x (hg j x hx); rw [show o + (i + j) * 6 = o + i * 6 + j * 6 by omega] at this; exact this) (fun j x hx => hkid (i + j) x (hg j x hx))
  rw [hl] at this
  exact this
theorem total_mid (l : List Node) (i m : Nat) : total ((l.drop i).take m) ≤ total l := by
  have h1 := total_le (l.drop i) m
  have h2 : total l = total (l.take i) + total (l.drop i) := by rw [← total_append, List.take_append_drop]
  omega

theorem weight_pre (l : List Node) (k : Nat) : weight (l.take k) ≤ weight l := by
  have h3 : ∀ a b : List Node, weight (a ++ b) = weight a + weight b := by intro a b; rw [weight_sum, weight_sum, weight_sum, sumBy_append]
  have : weight l = weight (l.take k) + weight (l.drop k) := by rw [← h3, List.take_append_drop]
  omega
/-- the strings from h on -/
theorem ones_drop {w : World} {A : Option Addr} {n c : Nat} {L : List (List UInt8)} (h : OnesAt w (.slice A n c) (strCells L)) {m : Nat} (hm : m ≤ n) : OnesAt w (.slice (if c = m then A else A.map (fun a => a.add m)) (n - m) (c - m)) (strCells (L.drop m)) := by
  obtain ⟨A', c', b, o, h1, h2, h3, h4, h5⟩ := h
  cases h1
  rw [strCells_len] at h2 hm
  have hl : (strCells (L.drop m)).length = (strCells L).length - m := by rw [strCells_len, strCells_len, List.length_drop]
  have hne : strCells (L.drop m) ≠ [] → m < L.length := fun hx => by
    rcases Nat.lt_or_ge m L.length with h9 | h9
    · exact h9
    · rw [List.drop_of_length_le h9] at hx; exact absurd rfl hx
  refine ⟨_, c - m, b, o + m, by rw [hl], by rw [hl, strCells_len]; omega, by omega, fun hx => ?_, fun i x hx => ?_⟩
  · have h9 := hne hx
    rw [if_neg (by omega), h4 (by intro h0; rw [← List.length_eq_zero_iff, strCells_len] at h0; omega)]
    simp only [Option.map_some]
    unfold Addr.add
    split <;> simp_all
  · have : (strCells L)[m + i]? = some x := by
      simp only [strCells, List.map_drop, List.getElem?_drop] at hx
      exact hx
    have := h5 (m + i) x this
    rwa [← Nat.add_assoc] at this

theorem ones_drop_at {w : World} {b o n c : Nat} {L : List (List UInt8)} (h : OnesAt w (.slice (some ⟨b, o, none⟩) n c) (strCells L)) {m : Nat} (hm : m ≤ n) : OnesAt w (.slice (if c = m then some ⟨b, o, none⟩ else some ⟨b, o + m, none⟩) (n - m) (c - m)) (strCells (L.drop m)) := by
  have h9 := ones_drop h hm
  have e : Option.map (fun a : Addr => a.add m) (some ⟨b, o, none⟩) = some ⟨b, o + m, none⟩ := by
    simp only [Option.map_some, Option.some.injEq]
    unfold Addr.add
    split <;> simp_all
  rwa [e] at h9
/-- Section's two results -/
def SecPost (l : List Node) (s : List UInt8) (w : World) (e : Ending) (w' : World) : Prop :=
  Below w.heap.size w w' ∧ ((docErr l ≠ 0 ∧ e = .returned (.tuple #[.slice none 0 0, .int .i64 (docErr l)])) ∨
    (docErr l = 0 ∧ (∀ i, ¬ HitAt l s i) ∧ e = .returned (.tuple #[.slice none 0 0, .int .i64 7])) ∨
    (docErr l = 0 ∧ ∃ (i k : Nat) (x : Node) (A : Option Addr) (c : Nat), FirstH l s i ∧ l[i]? = some x ∧ EndH l i x.level k ∧ e = .returned (.tuple #[.slice A (k - i) c, .int .i64 0]) ∧ NodesAt w' (.slice A (k - i) c) ((l.drop i).take (k - i))))

end Go.Proofs.YtlganccpgchmeaaDoor
