/-
  mark.Summary: the first blocks with so many words.
-/
import Derived.Test.YtikcmmkeblgamaaPlainWords
import Derived.Test.YtikcmmkeblgamaaClone
namespace Go.Proofs.Ytikcmmkeblgamaa
open Go.RowKit Go.Deep

/-- words of one node by itself -/
def nodeWords (n : Node) : Nat := (wordsF (plainL 0 [n])).1
/-- words of the first k nodes -/
def sumWords (l : List Node) (k : Nat) : Nat := sumBy nodeWords (l.take k)
theorem sumWords_succ {l : List Node} {k : Nat} {n : Node} (h : l[k]? = some n) : sumWords l (k + 1) = sumWords l k + nodeWords n := by
  obtain ⟨hk, rfl⟩ := List.getElem?_eq_some_iff.1 h
  rw [sumWords, List.take_succ_eq_append_getElem hk, sumBy_append]
  simp [sumWords, sumBy]
theorem weight_one (n : Node) : weight [n] = n.text.size + n.dest.size + n.title.size + weight n.kids + 1 := by rw [weight_cons]; simp [weight]
theorem nodeWords_le (n : Node) : nodeWords n ≤ weight [n] := by
  have h1 := wordsF_le (plainL 0 [n]) _ (Nat.le_refl _)
  rw [List.take_length] at h1
  have := plain_len [n] 0
  unfold nodeWords
  omega
theorem sumWords_le (l : List Node) : ∀ k, k ≤ l.length → sumWords l k ≤ weight (l.take k)
  | 0, _ => by simp [sumWords, sumBy]
  | k + 1, h => by
    have hk : l[k]? = some l[k] := List.getElem?_eq_getElem (by omega)
    rw [sumWords_succ hk, List.take_succ_eq_append_getElem (by omega)]
    have h1 := sumWords_le l k (by omega)
    have h2 := nodeWords_le l[k]
    have h3 : ∀ a b : List Node, weight (a ++ b) = weight a + weight b := by intro a b; rw [weight_sum, weight_sum, weight_sum, sumBy_append]
    rw [h3]
    omega
theorem weight_take_le (l : List Node) (k : Nat) : weight (l.take k) ≤ weight l := by
  have h3 : ∀ a b : List Node, weight (a ++ b) = weight a + weight b := by intro a b; rw [weight_sum, weight_sum, weight_sum, sumBy_append]
  have : weight l = weight (l.take k) + weight (l.drop k) := by rw [← h3, List.take_append_drop]
  omega

/-- where the summary ends -/
def StopAt (l : List Node) (d : Int) (k : Nat) : Prop := k ≤ l.length ∧ (∀ j, j < k → (sumWords l j : Int) < d) ∧ (k = l.length ∨ d ≤ (sumWords l k : Int))
theorem StopAt.unique {l : List Node} {d : Int} {a b : Nat} (h : StopAt l d a) (k : StopAt l d b) : a = b := by
  obtain ⟨a1, a2, a3⟩ := h
  obtain ⟨b1, b2, b3⟩ := k
  rcases Nat.lt_trichotomy a b with h | h | h
  · have := b2 a h; rcases a3 with h3 | h3 <;> omega
  · exact h
  · have := a2 b h; rcases b3 with h3 | h3 <;> omega

theorem NodesAt.one {w : World} {c b o k : Nat} {l : List Node} {kv : Nat → Value} {n : Node} (hlc : l.length ≤ c) (hc : c ≤ maxLen) (hn : l[k]? = some n) (hcell : NodeCells w b (o + k * 6) n (kv k)) (hkid : NodesAt w (kv k) n.kids) :
    NodesAt w (.slice (some ⟨b, o + k * 6, none⟩) 1 (c - k)) [n] := by
  have hk : k < l.length := (List.getElem?_eq_some_iff.1 hn).1
  refine .mk _ (c - k) [n] b (o + k * 6) (fun _ => kv k) (by simp; omega) (by omega) (fun _ => rfl) (fun i x hi => ?_) (fun i x hi => ?_)
  · cases i with
    | zero => simp at hi; subst hi; simpa using hcell
    | succ i => simp at hi
  · cases i with
    | zero => simp at hi; subst hi; exact hkid
    | succ i => simp at hi

theorem NodesAt.take {w : World} {A : Option Addr} {n c k : Nat} {l : List Node} (h : NodesAt w (.slice A n c) l) (hk : k ≤ l.length) : NodesAt w (.slice A k c) (l.take k) := by
  obtain ⟨A', c', b, o, kv, hv, hlc, hc, hA, hcell, hkid⟩ := h.inv
  cases hv
  have hl : (l.take k).length = k := by rw [List.length_take]; omega
  have := NodesAt.mk (w := w) A c (l.take k) b o kv (by omega) hc (fun hne => hA (by rintro rfl; simp at hne)) (fun i x hi => hcell i x (by rw [List.getElem?_take] at hi; split at hi; exact hi; cases hi)) (fun i x hi => hkid i x (by rw [List.getElem?_take] at hi; split at hi; exact hi; cases hi))
  rw [hl] at this
  exact this

theorem words_v (n : Node) (v : Value) (m : Nat) (w : World) (h : NodesAt w v [n]) (ht : weight [n] ≤ 1073741824) (hm : nodeWords n = m) : Calls Try.prog 44 #[v] w (WordsRes w m) := by
  subst hm
  exact words_any [n] v w h ht

/-- Summary's three results -/
def SumRes (d : Int) (l : List Node) (w : World) (e : Ending) (w' : World) : Prop :=
  Below w.heap.size w w' ∧ ((docErr l ≠ 0 ∧ e = .returned (.tuple #[.slice none 0 0, .bool false, .int .i64 (docErr l)])) ∨ (docErr l = 0 ∧ (d < 0 ∨ 20000 < d) ∧ e = .returned (.tuple #[.slice none 0 0, .bool false, .int .i64 2])) ∨
    (docErr l = 0 ∧ 0 ≤ d ∧ d ≤ 20000 ∧ ∃ k A c, StopAt l d k ∧ e = .returned (.tuple #[.slice A k c, .bool (decide (k < l.length)), .int .i64 0]) ∧ NodesAt w' (.slice A k c) (l.take k)))

set_option maxRecDepth 100000 in
set_option maxHeartbeats 2000000 in
theorem summary_good (l : List Node) (v : Value) (d : Int) (w : World) (h : NodesAt w v l) (ht : weight l ≤ 1073741824) (h0 : docErr l = 0) (hd1 : 0 ≤ d) (hd2 : d ≤ 20000) :
    Calls Try.prog 19 #[v, .int .i64 d] w (SumRes d l w) := by
  have htt : total l ≤ 1073741824 := by have := total_weight _ l (Nat.le_refl _); omega
  have H := Lib.hid h
  obtain ⟨A, c, bl, o, kv, rfl, hlc, hc, hA, hcell, hkid⟩ := h.inv
  have HCm := Lib.hid hc
  unfold maxLen at hc
  have HCell := Lib.hid hcell; clear hcell
  have HKid := Lib.hid hkid; clear hkid
  have hll := total_len l
  have H0 := Lib.hid h0; clear h0 h
  have g1 : decide (d < 0) = false := by simp; omega
  have g2 : decide (20000 < d) = false := by simp; omega
  go_enter Try.func19, Try.ntmps19
  go_wp2_with fail
  refine (check_any l _ _ H.out htt).mono ?_
  rw [H0.out]
  rintro e w1 ⟨rfl, hb⟩
  have HB := Lib.hid hb; clear hb
  go_wp2_with fail
  clear g1 g2
  go_loopw [8, 9] (fun t8 t9 wr => ∃ (k : Nat), k ≤ l.length ∧ t8 = .int .i64 k ∧ t9 = .int .i64 (sumWords l k : Nat) ∧ Hid (∀ j, j < k → (sumWords l j : Int) < d) ∧ Hid (Below w.heap.size w wr)) (fun t _ _ => l.length - (intOf t).toNat)
  case atStart => exact ⟨0, Nat.zero_le _, rfl, by simp [sumWords, sumBy], fun j hj => absurd hj (by omega), HB.out⟩
  case round =>
    obtain ⟨k, hk, rfl, rfl, hall, hbel⟩ := hrel
    have hsl := sumWords_le l k hk
    have hwl := weight_take_le l k
    obtain ⟨S, hS⟩ : ∃ S, sumWords l k = S := ⟨_, rfl⟩
    rw [hS]
    rw [hS] at hsl
    have HS := Lib.hid hS; clear hS
    by_cases hlt : k < l.length
    · by_cases hsd : (S : Int) < d
      · have hA' := hA (by rintro rfl; simp at hlt)
        subst hA'
        obtain ⟨n, hn⟩ : ∃ n, l[k]? = some n := ⟨_, List.getElem?_eq_getElem hlt⟩
        have HNn := Lib.hid (NodesAt.one hlc HCm.out hn ((HCell.out k n hn).keep (Keeps.of_below hbel.out)) ((HKid.out k n hn).keep (Keeps.of_below hbel.out)))
        obtain ⟨W, hW⟩ : ∃ W, nodeWords n = W := ⟨_, rfl⟩
        have HSu := Lib.hid (show sumWords l (k + 1) = S + W by rw [sumWords_succ hn, HS.out, hW])
        have hwt := weight_take hn
        have hw1 : weight [n] ≤ 1073741824 := by rw [weight_one]; omega
        have hW2 : W ≤ 1073741824 := by rw [← hW]; have := nodeWords_le n; omega
        have HW := Lib.hid hW; clear hW
        clear hn hwt hsl hwl
        have hck : ¬ c = k := by omega
        have HSd := Lib.hid hsd
        go_wp2_with fail
        go_must (refine (words_v n _ W _ HNn.out hw1 HW.out).mono ?_)
        rintro e w2 ⟨rfl, hb⟩
        have HB2 := Lib.hid (hbel.out.trans (hb.mono hbel.out.size)); clear hb
        go_wp2_with fail
        go_roundw
        case rel =>
          refine ⟨k + 1, by omega, by go_num, by rw [HSu.out]; go_num, fun j hj => ?_, HB2⟩
          rcases Nat.lt_succ_iff_lt_or_eq.1 hj with h5 | rfl
          · exact hall.out j h5
          · rw [HS.out]; exact HSd.out
        case measure => simp [intOf]; omega
      · have HTake := Lib.hid (NodesAt.take (k := k) (H.out.keep (Keeps.of_below hbel.out)) hk)
        have hlen : (l.take k).length = k := by rw [List.length_take]; omega
        have HStop := Lib.hid (show StopAt l d k from ⟨hk, hall.out, Or.inr (by rw [HS.out]; omega)⟩)
        clear hsl hwl
        have HLen := Lib.hid hlen; clear hlen
        go_wp2_with fail
        go_must (refine (clone_any _ (l.take k) _ _ (Nat.le_refl _) HTake.out (by have := total_le l k; omega)).mono ?_)
        rintro e w2 ⟨u, rfl, hT, hb⟩
        obtain ⟨A5, c5, hu⟩ := hT.slice
        rw [HLen.out] at hu
        subst hu
        have HT := Lib.hid hT.nodes; clear hT
        have HB2 := Lib.hid (hbel.out.trans (hb.mono hbel.out.size)); clear hb
        go_wp2_with fail
        go_ret3
        exact ⟨HB2.out, Or.inr (Or.inr ⟨H0.out, hd1, hd2, k, A5, c5, HStop.out, by simp [hlt], HT.out⟩)⟩
    · have HTake := Lib.hid (NodesAt.take (k := k) (H.out.keep (Keeps.of_below hbel.out)) hk)
      have hlen : (l.take k).length = k := by rw [List.length_take]; omega
      have HStop := Lib.hid (show StopAt l d k from ⟨hk, hall.out, Or.inl (by omega)⟩)
      clear hsl hwl
      have HLen := Lib.hid hlen; clear hlen
      go_wp2_with fail
      go_must (refine (clone_any _ (l.take k) _ _ (Nat.le_refl _) HTake.out (by have := total_le l k; omega)).mono ?_)
      rintro e w2 ⟨u, rfl, hT, hb⟩
      obtain ⟨A5, c5, hu⟩ := hT.slice
      rw [HLen.out] at hu
      subst hu
      have HT := Lib.hid hT.nodes; clear hT
      have HB2 := Lib.hid (hbel.out.trans (hb.mono hbel.out.size)); clear hb
      go_wp2_with fail
      go_ret3
      exact ⟨HB2.out, Or.inr (Or.inr ⟨H0.out, hd1, hd2, k, A5, c5, HStop.out, by simp [hlt], HT.out⟩)⟩

end Go.Proofs.Ytikcmmkeblgamaa
