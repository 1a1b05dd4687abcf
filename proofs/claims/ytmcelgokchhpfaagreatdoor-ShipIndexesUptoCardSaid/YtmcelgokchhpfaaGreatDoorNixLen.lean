/-
  How many words documents have, and how long the text of their index can be.
-/
import Derived.Test.YtmcelgokchhpfaaGreatDoorNixIn
import Derived.Test.YtmcelgokchhpfaaGreatDoorReadLens
namespace Go.Proofs.YtmcelgokchhpfaaGreatDoor
open Go.RowKit Go.Deep

theorem words_half : ∀ (l cur : List UInt8), 2 * (wordsAux l cur).length ≤ l.length + (if cur = [] then 1 else 2)
  | [], cur => by
    have := flush_len cur
    by_cases h : cur = []
    · subst h; simp [wordsAux, flush_nil]
    · rw [if_neg h]; simp only [wordsAux, List.length_nil]; omega
  | c :: r, cur => by
    rw [wordsAux]
    split
    · have := words_half r (cur ++ [lowerB c])
      rw [if_neg (by simp)] at this
      rw [List.length_cons]
      split <;> omega
    · have h1 := words_half r []
      rw [if_pos rfl] at h1
      have h2 := flush_len cur
      rw [List.length_append, List.length_cons]
      by_cases h : cur = []
      · subst h; rw [flush_nil]; simp only [List.length_nil, if_true]; omega
      · rw [if_neg h]; omega
/-- how many words a document has -/
def fwN (d : DocR) : Nat := (wordsAux d.title.data.toList []).length + (wordsAux d.text.data.toList []).length
theorem fwN_le (d : DocR) : 2 * fwN d ≤ d.title.size + d.text.size + 2 := by
  have h1 := words_half d.title.data.toList []
  have h2 := words_half d.text.data.toList []
  rw [if_pos rfl, size_toList] at h1 h2
  unfold fwN; omega
theorem sumBy_take_succ {α : Type} (f : α → Nat) {l : List α} {k : Nat} {x : α} (h : l[k]? = some x) : sumBy f (l.take (k + 1)) = sumBy f (l.take k) + f x := by
  obtain ⟨h1, rfl⟩ := List.getElem?_eq_some_iff.1 h
  rw [List.take_succ_eq_append_getElem h1, sumBy_snoc]
theorem sumBy_take_le {α : Type} (f : α → Nat) (l : List α) (k : Nat) : sumBy f (l.take k) ≤ sumBy f l := by
  conv => rhs; rw [← List.take_append_drop k l]
  rw [sumBy_append]; omega
theorem sumBy_half {α : Type} {f g : α → Nat} (h : ∀ x, 2 * f x ≤ g x) : ∀ l : List α, 2 * sumBy f l ≤ sumBy g l
  | [] => by simp [sumBy]
  | a :: r => by have := sumBy_half h r; have := h a; simp only [sumBy]; omega
theorem names_len (A B : List (List UInt8)) : (namesL (ownL A B)).length ≤ A.length + B.length := by
  have h1 := List.Nodup.length_le_of_subset (lt_nodup (namesL_lt (ownL A B))) (l₂ := A ++ B) (fun x hx => by
    rw [namesL_mem, ownL] at hx
    rcases List.mem_append.1 hx with h | h
    · simp only [thrice, List.mem_flatMap, List.mem_cons, List.not_mem_nil, or_false] at h
      obtain ⟨s, hs, h⟩ := h
      rcases h with rfl | rfl | rfl <;> exact List.mem_append.2 (Or.inl hs)
    · exact List.mem_append.2 (Or.inr h))
  rw [List.length_append] at h1
  exact h1
theorem allW_len : ∀ D : List DocR, (allW D).length ≤ sumBy fwN D
  | [] => Nat.le_refl _
  | d :: r => by
    have h1 := allW_len r
    have h2 := names_len (twL d) (bwL d)
    simp only [twL, bwL, List.length_map] at h2
    rw [allW, List.length_append]
    simp only [sumBy, fwN, twL, bwL] at *
    omega
theorem nixK_len (D : List DocR) : (nixK D).length ≤ sumBy fwN D := by
  have h1 := onceL_len (srt (allW D)) (srt (allW D)).length
  rw [srt_len] at h1
  have h2 := allW_len D
  rw [nixK, namesL]
  rw [srt_len]
  omega
theorem wAt_pos {D : List DocR} {n : Nat} {d : DocR} (h : D[n]? = some d) {s : List UInt8} (hp : 0 < wAt D n s) : s ∈ twL d ++ bwL d := by
  rw [wAt_at h] at hp
  rw [List.mem_append]
  by_cases h1 : s ∈ twL d
  · exact Or.inl h1
  · rw [List.count_eq_zero.2 h1] at hp
    exact Or.inr (List.count_pos_iff.1 (by omega))
theorem sum_filter {α : Type} (f : α → Nat) (p : α → Prop) [DecidablePred p] : ∀ l : List α, sumBy (fun s => f s + (if p s then 1 else 0)) l = sumBy f l + (l.filter fun s => decide (p s)).length
  | [] => rfl
  | a :: r => by
    have ih := sum_filter f p r
    simp only [sumBy, List.filter_cons]
    rw [ih]
    by_cases h : p a <;> simp [h] <;> omega
theorem sumBy_congr {α : Type} {f g : α → Nat} : ∀ {l : List α}, (∀ x ∈ l, f x = g x) → sumBy f l = sumBy g l
  | [], _ => rfl
  | a :: r, h => by simp only [sumBy]; rw [h a (by simp), sumBy_congr (fun x hx => h x (by simp [hx]))]
theorem sumBy_mono {α : Type} {f g : α → Nat} : ∀ {l : List α}, (∀ x ∈ l, f x ≤ g x) → sumBy f l ≤ sumBy g l
  | [], _ => Nat.le_refl _
  | a :: r, h => by have := h a (by simp); have := sumBy_mono (f := f) (g := g) (l := r) (fun x hx => h x (by simp [hx])); simp only [sumBy]; omega
theorem pD_sum {K : List (List UInt8)} (hK : K.Nodup) (D : List DocR) : ∀ n, n ≤ D.length → sumBy (fun s => (pD (wAt D) n s).length) K ≤ sumBy fwN (D.take n)
  | 0, _ => by
    have : sumBy (fun s => (pD (wAt D) 0 s).length) K = sumBy (fun _ => 0) K := sumBy_congr (fun x _ => by simp [pD])
    rw [this]
    have h0 : ∀ l : List (List UInt8), sumBy (fun _ => 0) l = 0 := fun l => by induction l with | nil => rfl | cons a r ih => simp only [sumBy]; omega
    rw [h0]; exact Nat.zero_le _
  | n + 1, hn => by
    have ih := pD_sum hK D n (by omega)
    obtain ⟨d, hd⟩ : ∃ d, D[n]? = some d := ⟨_, List.getElem?_eq_getElem (by omega)⟩
    rw [sumBy_take_succ fwN hd]
    have h1 : sumBy (fun s => (pD (wAt D) (n + 1) s).length) K = sumBy (fun s => (pD (wAt D) n s).length + (if 0 < wAt D n s then 1 else 0)) K := sumBy_congr (fun x _ => by
      rw [pD_succ, List.length_append]
      split <;> rfl)
    rw [h1, sum_filter]
    have h2 := List.Nodup.length_le_of_subset (hK.filter (fun s => decide (0 < wAt D n s))) (l₂ := twL d ++ bwL d) (fun x hx => wAt_pos hd (by simpa using (List.mem_filter.1 hx).2))
    rw [List.length_append, twL, bwL, List.length_map, List.length_map] at h2
    unfold fwN
    unfold fwN at ih
    omega
theorem words_30 {d : DocR} {s : List UInt8} (h : s ∈ twL d ++ bwL d) : s.length ≤ 30 := by
  rcases List.mem_append.1 h with h | h
  · obtain ⟨x, hx, rfl⟩ := List.mem_map.1 h
    have := word_le _ _ x hx
    have := stem_le x
    omega
  · obtain ⟨x, hx, rfl⟩ := List.mem_map.1 h
    have := word_le _ _ x hx
    have := stem_le x
    omega
theorem nixK_30 {D : List DocR} {s : List UInt8} (h : s ∈ nixK D) : s.length ≤ 30 := by
  rw [nixK, namesL_mem, allW_mem] at h
  obtain ⟨d, h1, h2⟩ := h
  obtain ⟨x, hx⟩ : ∃ x, D[d]? = some x := ⟨_, List.getElem?_eq_getElem h1⟩
  exact words_30 (wAt_pos hx h2)
/-- the whole input, in bytes and a little -/
def nixW (D : List DocR) : Nat := sumBy (fun d => d.addr.size + d.title.size + d.text.size + 3) D
theorem fwN_sum (D : List DocR) : 2 * sumBy fwN D ≤ nixW D := sumBy_half (fun d => by have := fwN_le d; omega) D
theorem wAt_le (D : List DocR) (n : Nat) (s : List UInt8) : wAt D n s ≤ 3 * nixW D := by
  rw [wAt]
  cases h : D[n]? with
  | none => exact Nat.zero_le _
  | some d =>
    simp only
    have h1 := List.count_le_length (a := s) (l := twL d)
    have h2 := List.count_le_length (a := s) (l := bwL d)
    simp only [twL, bwL, List.length_map] at h1 h2
    have h3 := sumBy_mem fwN (List.mem_of_getElem? h)
    have h4 := fwN_sum D
    have h5 : fwN d = (wordsAux d.title.data.toList []).length + (wordsAux d.text.data.toList []).length := rfl
    simp only [twL, bwL]
    omega
theorem nix_ints {D : List DocR} (hl : D.length ≤ 120) (hw : nixW D ≤ 1048576) : (∀ n ∈ nixS D, I64 n) ∧ ∀ t ∈ nixT D, (∀ n ∈ t.docs, I64 n) ∧ ∀ n ∈ t.many, I64 n := by
  refine ⟨fun n hn => ?_, fun t ht => ?_⟩
  · obtain ⟨d, hd, rfl⟩ := List.mem_map.1 hn
    have h3 := sumBy_mem fwN hd
    have h4 := fwN_sum D
    have h5 : fwN d = (wordsAux d.title.data.toList []).length + (wordsAux d.text.data.toList []).length := rfl
    unfold I64; omega
  · obtain ⟨s, hs, rfl⟩ := List.mem_map.1 ht
    refine ⟨fun n hn => ?_, fun n hn => ?_⟩
    · obtain ⟨d, h1, rfl, _⟩ := pD_mem hn
      unfold I64; omega
    · obtain ⟨d, h1, rfl, _⟩ := pM_mem hn
      have := wAt_le D d s
      unfold I64; omega
theorem nix_len {D : List DocR} (hl : D.length ≤ 120) (hw : nixW D ≤ 1048576) : (idxT (nixD D) (nixS D) (nixT D)).length ≤ 1073741824 := by
  obtain ⟨i1, i2⟩ := nix_ints hl hw
  have h1 := docsT_len (nixD D) (nixS D) i1
  have h2 := termsT_len (nixT D) i2
  have h3 : docsW (nixD D) ≤ nixW D := by
    have : ∀ D : List DocR, docsW (nixD D) ≤ nixW D := fun D => by
      induction D with
      | nil => exact Nat.le_refl _
      | cons d r ih => simp only [nixD, docsW, nixW, List.map_cons, sumBy] at ih ⊢; omega
    exact this D
  have h4 : termsW (nixT D) ≤ 31 * (nixK D).length + sumBy (fun s => (pD (wAt D) D.length s).length) (nixK D) := by
    have : ∀ K : List (List UInt8), (∀ s ∈ K, s.length ≤ 30) → termsW (K.map (nixTerm D)) ≤ 31 * K.length + sumBy (fun s => (pD (wAt D) D.length s).length) K := fun K => by
      induction K with
      | nil => intro _; exact Nat.le_refl _
      | cons s r ih =>
        intro hK
        have h5 := hK s (by simp)
        have h6 := ih (fun x hx => hK x (by simp [hx]))
        have h7 : (str0 s).size = s.length := by rw [← size_toList, str0_list]
        simp only [termsW, List.map_cons, sumBy, nixTerm, h7, List.length_cons] at h6 ⊢
        omega
    exact this _ (fun s hs => nixK_30 hs)
  have h5 := pD_sum (lt_nodup (nixK_lt D)) D D.length (Nat.le_refl _)
  rw [List.take_length] at h5
  have h6 := nixK_len D
  have h7 := fwN_sum D
  rw [idxT, List.length_append]
  omega

end Go.Proofs.YtmcelgokchhpfaaGreatDoor
