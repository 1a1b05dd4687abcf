/-
  How much a written index can hold.
-/
import Derived.Test.YtmcelgokchhpfaaGreatDoorReadPlain
namespace Go.Proofs.YtmcelgokchhpfaaGreatDoor
open Go.RowKit Go.Deep

theorem sumBy_cons' {α : Type} (f : α → Nat) (x : α) (l : List α) : sumBy f (x :: l) = f x + sumBy f l := rfl
theorem sumBy_snoc {α : Type} (f : α → Nat) (l : List α) (x : α) : sumBy f (l ++ [x]) = sumBy f l + f x := by
  induction l with
  | nil => simp [sumBy]
  | cons a r ih =>
    simp only [List.cons_append, sumBy_cons'] at ih ⊢
    omega
theorem sumBy_mem {α : Type} (f : α → Nat) {l : List α} {x : α} (h : x ∈ l) : f x ≤ sumBy f l := by
  induction l with
  | nil => cases h
  | cons a r ih =>
    simp only [sumBy_cons']
    rcases List.mem_cons.1 h with rfl | h
    · omega
    · have := ih h; omega
theorem sumBy_count {α : Type} (f : α → Nat) (hf : ∀ x, 1 ≤ f x) : ∀ l : List α, l.length ≤ sumBy f l
  | [] => Nat.zero_le _
  | a :: r => by
    have := sumBy_count f hf r
    have := hf a
    simp only [sumBy_cons', List.length_cons]
    omega
theorem splitC_count (c : UInt8) : ∀ l : List UInt8, (splitC c l).length ≤ l.length + 1
  | [] => Nat.le_refl _
  | b :: l => by
    have ih := splitC_count c l
    rw [splitC]
    split
    · rw [List.length_cons, List.length_cons]; omega
    · split
      · simp
      · rename_i h; rw [h] at ih; simp only [List.length_cons] at ih ⊢; omega
theorem split_tail (c : UInt8) (l : List UInt8) : (bef c l).length + (splitC c l).tail.length ≤ l.length := by
  rw [splitC_eq, List.tail_cons]
  have h1 := bef_len c l
  rcases aft_form c l with h | ⟨r, h⟩
  · rw [if_pos h, List.length_nil]; omega
  · rw [if_neg (by rw [h]; simp), h, List.tail_cons]
    have h2 := splitC_count c r
    rw [h, List.length_cons] at h1
    omega
def remW (L : List (List UInt8)) : Nat := sumBy (fun l => l.length + 1) L
theorem remW_split (c : UInt8) : ∀ l : List UInt8, remW (splitC c l) = l.length + 1
  | [] => rfl
  | b :: l => by
    have ih := remW_split c l
    rw [splitC]
    split
    · simp only [remW, sumBy_cons', List.length_cons, List.length_nil] at ih ⊢; omega
    · cases h : splitC c l with
      | nil => exact absurd h (splitC_ne c l)
      | cons p r =>
        rw [h] at ih
        simp only [remW, sumBy_cons', List.length_cons] at ih ⊢
        omega
theorem Left.rem {t : List UInt8} {L : List (List UInt8)} (h : Left t L) : remW L = t.length := by
  rcases h with ⟨h1, h2⟩ | ⟨u, h1, h2⟩
  · rw [h1, h2]; rfl
  · rw [h1, h2, remW_split]; simp

def stW (s : St) : Nat := docsW s.D + termsW s.T
theorem prefix_len {l p : List UInt8} (h : Lib.hasPrefix l p = true) : p.length ≤ l.length := by
  have h1 : p <+: l := by simpa [Lib.hasPrefix] using h
  exact h1.length_le
theorem lineS_W (s : St) (l : List UInt8) (h : lineOk s.T l = true) : stW (lineS s l) ≤ stW s + (l.length + 1) ∧ ((lineS s l).S.length = (lineS s l).D.length ↔ s.S.length = s.D.length) := by
  rw [lineOk] at h
  unfold stW lineS
  by_cases h1 : Lib.hasPrefix l docW0 = true
  · rw [if_pos h1]
    simp only
    have e : docsW (s.D ++ [docD (l.drop 4)]) = docsW s.D + ((docD (l.drop 4)).addr.size + (docD (l.drop 4)).title.size + 1) := by rw [docsW, sumBy_snoc]; rfl
    rw [e]
    have h2 := prefix_len h1
    have h3 := bef_len 32 (l.drop 4)
    have h4 := bef_len 32 (docR1 (l.drop 4))
    have h5 : (docR1 (l.drop 4)).length ≤ (aft 32 (l.drop 4)).length := by rw [docR1, List.length_tail]; omega
    have h6 : (docZ (l.drop 4)).length ≤ (aft 32 (docR1 (l.drop 4))).length := by rw [docZ, List.length_tail]; omega
    have h7 : (docD (l.drop 4)).addr.size = (bef 32 (l.drop 4)).length := by rw [docD, bs_size]; rfl
    have h8 : (docD (l.drop 4)).title.size = (docZ (l.drop 4)).length := by rw [docD, bs_size]
    have h9 : (l.drop 4).length = l.length - 4 := List.length_drop
    have h10 : docW0.length = 4 := rfl
    refine ⟨by omega, by simp⟩
  · rw [if_neg h1] at h ⊢
    by_cases h2 : Lib.hasPrefix l termW0 = true
    · simp only
      have e : termsW (s.T ++ [termD (l.drop 5)]) = termsW s.T + ((termD (l.drop 5)).word.size + (termD (l.drop 5)).docs.length + 1) := by rw [termsW, sumBy_snoc]; rfl
      rw [e]
      have h3 := prefix_len h2
      have h4 := split_tail 32 (l.drop 5)
      have h5 : (termD (l.drop 5)).word.size = (bef 32 (l.drop 5)).length := by rw [termD, bs_size]
      have h6 : (termD (l.drop 5)).docs.length = (splitC 32 (l.drop 5)).tail.length := by rw [termD, List.length_map]
      have h9 : (l.drop 5).length = l.length - 5 := List.length_drop
      have h10 : termW0.length = 5 := rfl
      refine ⟨by omega, by simp⟩
    · rw [if_neg h2] at h; cases h
theorem stW_D (s : St) : s.D.length ≤ stW s := by
  have := sumBy_count (fun d : DocR => d.addr.size + d.title.size + 1) (fun x => by omega) s.D
  unfold stW docsW
  omega
theorem stW_T (s : St) : s.T.length ≤ stW s := by
  have := sumBy_count (fun t : TermR => t.word.size + t.docs.length + 1) (fun x => by omega) s.T
  unfold stW termsW
  omega
theorem stW_d (s : St) {d : DocR} (h : d ∈ s.D) : d.addr.size ≤ stW s ∧ d.title.size ≤ stW s := by
  have := sumBy_mem (fun d : DocR => d.addr.size + d.title.size + 1) h
  unfold stW docsW
  omega
theorem stW_t (s : St) {t : TermR} (h : t ∈ s.T) : t.word.size ≤ stW s ∧ t.docs.length ≤ stW s := by
  have := sumBy_mem (fun t : TermR => t.word.size + t.docs.length + 1) h
  unfold stW termsW
  omega
theorem IdxAt.text_le {w : World} {dv sv tv : Value} {s : St} (h : IdxAt w dv sv tv s.D s.S s.T) {n : Nat} (hn : stW s ≤ n) : (idxT s.D s.S s.T).length ≤ 44 * n := by
  have h1 := h.len
  unfold stW at hn
  omega

end Go.Proofs.YtmcelgokchhpfaaGreatDoor
