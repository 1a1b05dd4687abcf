/-
  The scores while they grow, plainly and as they lie in memory.
-/
import Derived.Test.YtjcegmbfipjdcaaGreatDoorIdxTerm
import Derived.Test.YtjcegmbfipjdcaaGreatDoorHitOwn
import Derived.Test.YtjcegmbfipjdcaaGreatDoorStem
import Derived.Test.YtjcegmbfipjdcaaGreatDoorWordsPlain
import Derived.Test.YtjcegmbfipjdcaaGreatDoorStrMap
import Derived.Test.YtjcegmbfipjdcaaGreatDoorEvents
import Derived.Laws.OwnMore
import Derived.OwnWalk
namespace Go.Proofs.YtjcegmbfipjdcaaGreatDoor
open Go.RowKit Go.ChangeShapes Go.WideShapes Go.Deep

theorem idxE_parts {D : List DocR} {S : List Int} {T : List TermR} (h : idxE D S T = 0) : frontE D S = 0 ∧ termsE D.length T = 0 ∧ (idxT D S T).length ≤ 400000 := by
  unfold idxE at h
  by_cases h1 : frontE D S = 0
  · rw [if_pos h1] at h
    by_cases h2 : termsE D.length T = 0
    · rw [if_pos h2] at h
      refine ⟨h1, h2, ?_⟩
      by_cases h3 : 400000 < (idxT D S T).length
      · rw [if_pos h3] at h; cases h
      · omega
    · rw [if_neg h2] at h
      exact absurd h h2
  · rw [if_neg h1] at h
    exact absurd h h1
theorem front_parts {D : List DocR} {S : List Int} (h : frontE D S = 0) : docsE D = 0 ∧ sizesE D.length S = 0 := by
  unfold frontE at h
  by_cases h1 : docsE D = 0
  · rw [if_pos h1] at h; exact ⟨h1, h⟩
  · rw [if_neg h1] at h; exact absurd h h1
theorem lsB_no {x y : ByteArray} (h : lsB x y = false) : y.data.toList < x.data.toList := by
  unfold lsB at h
  rw [Bool.or_eq_false_iff] at h
  obtain ⟨h1, h2⟩ := h
  rw [Go.ByteArray.toList_eq, Go.ByteArray.toList_eq] at h1 h2
  rw [Go.Proofs.bytesLess_eq] at h1
  have h1' : ¬ x.data.toList < y.data.toList := by simpa using h1
  have h2' : ¬ x.data.toList = y.data.toList := by simpa using h2
  rcases list_lt_or h1' with h3 | h3
  · exact h3
  · exact absurd h3 h2'
/-- rising step by step is rising -/
theorem rise_steps {A : Type} (R : A → A → Prop) (tr : ∀ a b c, R a b → R b c → R a c) {l : List A} (h : ∀ (i : Nat) (x y : A), l[i]? = some x → l[i + 1]? = some y → R x y) : l.Pairwise R := by
  rw [List.pairwise_iff_getElem]
  intro i j hi hj hij
  obtain ⟨d, rfl⟩ : ∃ d, j = i + 1 + d := ⟨j - (i + 1), by omega⟩
  clear hij
  induction d with
  | zero => exact h i _ _ (List.getElem?_eq_getElem hi) (List.getElem?_eq_getElem hj)
  | succ d ih =>
    have hj2 : i + 1 + d < l.length := by omega
    exact tr _ _ _ (ih hj2) (h (i + 1 + d) _ _ (List.getElem?_eq_getElem hj2) (List.getElem?_eq_getElem hj))
theorem idx_drise {D : List DocR} {S : List Int} {T : List TermR} (h : idxE D S T = 0) : DRise D := by
  have h1 := (front_parts (idxE_parts h).1).1
  unfold docsE at h1
  split at h1
  · cases h1
  · refine rise_steps (fun x y : DocR => x.addr.data.toList < y.addr.data.toList) (fun a b c h1 h2 => List.lt_trans h1 h2) (fun i x y hx hy => ?_)
    have h2 := firstE_all D.length 0 (by omega) h1 (i + 1) (Nat.zero_le _) (List.getElem?_eq_some_iff.1 hy).1
    rw [docE1_at hy] at h2
    split at h2
    · cases h2
    · split at h2
      · cases h2
      · rename_i h3
        rw [docPrev_succ hx] at h3
        exact lsB_no (by simpa using h3)
theorem idx_size {D : List DocR} {S : List Int} {T : List TermR} (h : idxE D S T = 0) {i : Nat} {n : Int} (hn : S[i]? = some n) : 0 ≤ n ∧ n ≤ 200000 := by
  obtain ⟨h0, h1⟩ := front_parts (idxE_parts h).1
  unfold sizesE at h1
  split at h1
  · have h2 := firstE_all S.length 0 (by omega) h1 i (Nat.zero_le _) (List.getElem?_eq_some_iff.1 hn).1
    by_cases h3 : n < 0 ∨ 200000 < n
    · rw [sizeE1_bad hn h3] at h2; cases h2
    · omega
  · cases h1
theorem idx_trise {D : List DocR} {S : List Int} {T : List TermR} (h : idxE D S T = 0) : TRise T := by
  have h1 := (idxE_parts h).2.1
  refine rise_steps (fun x y : TermR => wordOf x < wordOf y) (fun a b c h1 h2 => List.lt_trans h1 h2) (fun i x y hx hy => ?_)
  have h2 := firstE_all T.length 0 (by omega) h1 (i + 1) (Nat.zero_le _) (List.getElem?_eq_some_iff.1 hy).1
  rw [termE1_at hy] at h2
  split at h2
  · cases h2
  · split at h2
    · cases h2
    · rename_i h3
      rw [termPrev_succ hx] at h3
      exact lsB_no (by simpa using h3)
theorem idx_term {D : List DocR} {S : List Int} {T : List TermR} (h : idxE D S T = 0) {k : Nat} {t : TermR} (ht : T[k]? = some t) : termE D.length t = 0 := by
  have h2 := firstE_all T.length 0 (by omega) (idxE_parts h).2.1 k (Nat.zero_le _) (List.getElem?_eq_some_iff.1 ht).1
  rw [termE1_at ht] at h2
  split at h2
  · cases h2
  · split at h2
    · cases h2
    · exact h2
theorem term_lens {n : Nat} {t : TermR} (h : termE n t = 0) : 0 < t.docs.length ∧ t.docs.length = t.many.length := by
  by_cases h2 : t.docs.length = 0 ∨ t.docs.length ≠ t.many.length
  · rw [termE_empty h2] at h; cases h
  · omega
theorem term_post {n : Nat} {t : TermR} (h : termE n t = 0) {i : Nat} {d m : Int} (hd : t.docs[i]? = some d) (hm : t.many[i]? = some m) : 0 ≤ d ∧ d < n ∧ 1 ≤ m ∧ m ≤ 600000 := by
  obtain ⟨h0, h1⟩ := term_lens h
  rw [termE_loop (by omega) h1] at h
  have h2 := firstE_all (n := t.docs.length) t.docs.length 0 (by omega) h i (Nat.zero_le _) (List.getElem?_eq_some_iff.1 hd).1
  rw [postE1_at hd hm] at h2
  split at h2
  · cases h2
  · split at h2
    · cases h2
    · split at h2
      · cases h2
      · omega
theorem term_rise {n : Nat} {t : TermR} (h : termE n t = 0) : t.docs.Pairwise (· < ·) := by
  obtain ⟨h0, h1⟩ := term_lens h
  rw [termE_loop (by omega) h1] at h
  refine rise_steps _ (fun a b c h1 h2 => by omega) (fun i x y hx hy => ?_)
  obtain ⟨m, hm⟩ : ∃ m, t.many[i + 1]? = some m := ⟨_, List.getElem?_eq_getElem (by have := (List.getElem?_eq_some_iff.1 hy).1; omega)⟩
  have h2 := firstE_all (n := t.docs.length) t.docs.length 0 (by omega) h (i + 1) (Nat.zero_le _) (List.getElem?_eq_some_iff.1 hy).1
  rw [postE1_at hy hm] at h2
  split at h2
  · cases h2
  · split at h2
    · cases h2
    · rename_i h3
      rw [intPrev_succ hx] at h3
      have : ¬ y ≤ x := by simpa using h3
      omega
theorem termT_pos (t : TermR) : 1 ≤ (termT t).length := by simp [termT]
theorem termsT_many : ∀ (T : List TermR), T.length ≤ (termsT T).length
  | [] => by simp
  | t :: r => by
    have h1 := termsT_many r
    have h2 := termT_pos t
    simp only [termsT, List.length_cons, List.length_append]
    omega
theorem idx_terms_le {D : List DocR} {S : List Int} {T : List TermR} (h : idxE D S T = 0) : T.length ≤ 400000 := by
  have h1 := (idxE_parts h).2.2
  have h2 := termsT_many T
  simp only [idxT, List.length_append] at h1
  omega

/-! ### the score stays small -/
theorem bitsN_eq (n : Nat) (h : 0 < n) : bitsN n = bitsN (n / 2) + 1 := by
  obtain ⟨m, rfl⟩ : ∃ m, n = m + 1 := ⟨n - 1, by omega⟩
  rw [bitsN]
theorem bitsN_small : ∀ (k n : Nat), n < 2 ^ k → bitsN n ≤ k
  | 0, n, h => by have : n = 0 := by omega
                  subst this; simp [bitsN]
  | k + 1, n, h => by
    by_cases h0 : n = 0
    · subst h0; simp [bitsN]
    · rw [bitsN_eq n (by omega)]
      have := bitsN_small k (n / 2) (by rw [Nat.pow_succ] at h; omega)
      omega
/-- each score is at most M -/
def ScLe (M : Int) (sc : List Int) : Prop := ∀ (i : Nat) (n : Int), sc[i]? = some n → 0 ≤ n ∧ n ≤ M
theorem add_val {m W z : Int} (hm : 1 ≤ m ∧ m ≤ 600000) (hW : 0 ≤ W ∧ W ≤ 7) (hz : 0 ≤ z ∧ z ≤ 200000) : 0 ≤ m * 1000 * W ∧ m * 1000 * W ≤ 4200000000 ∧ 0 ≤ (m * 1000 * W).tdiv (z + 10) ∧ (m * 1000 * W).tdiv (z + 10) ≤ 4200000000 := by
  have h1 : 0 ≤ m * 1000 * W := Int.mul_nonneg (by omega) hW.1
  have h2 : m * 1000 * W ≤ 600000 * 1000 * 7 := Int.mul_le_mul (by omega) hW.2 hW.1 (by omega)
  refine ⟨h1, by omega, Int.tdiv_nonneg h1 (by omega), ?_⟩
  rw [Int.tdiv_eq_ediv_of_nonneg h1]
  exact Int.le_trans (Int.ediv_le_self _ h1) (by omega)
end Go.Proofs.YtjcegmbfipjdcaaGreatDoor

namespace Go.Proofs.YtjcegmbfipjdcaaGreatDoor
open Go.RowKit Go.Deep

theorem bitsN_le (n : Nat) : bitsN n ≤ n := by
  induction n using Nat.strongRecOn with
  | _ n ih =>
    by_cases h : n = 0
    · subst h; simp [bitsN]
    · rw [bitsN_eq n (by omega)]
      have := ih (n / 2) (by omega)
      omega
theorem half_intB (n : Nat) : (n : Int).tdiv 2 = ((n / 2 : Nat) : Int) := by
  rw [Int.tdiv_eq_ediv_of_nonneg (by omega)]; omega

set_option maxRecDepth 100000 in
set_option maxHeartbeats 2000000 in
theorem bits_q (n : Nat) (w : World) (hn : n ≤ 1000) :
    Calls Tryz.prog 37 #[.int .i64 n] w fun e w' => e = .returned (.int .i64 (bitsN n)) ∧ Below w.heap.size w w' := by
  go_enter Tryz.func37, Tryz.ntmps37
  go_wp2_with fail
  go_loopw [0, 3] (fun t0 t3 wr => ∃ m k : Nat, m ≤ n ∧ t0 = .int .i64 m ∧ t3 = .int .i64 k ∧ Hid (k + bitsN m = bitsN n) ∧ Hid (Below w.heap.size w wr)) (fun t _ _ => (intOf t).toNat)
  case atStart => exact ⟨n, 0, Nat.le_refl _, rfl, rfl, Lib.hid (by simp), Lib.hid (Below.refl _ _)⟩
  case round =>
    obtain ⟨m, k, hm, rfl, rfl, HK, HW⟩ := hrel
    by_cases hp : 0 < m
    · have hp1 : (0 : Int) < (m : Int) := by omega
      have hh := half_intB m
      have HB := Lib.hid (bitsN_eq m hp)
      have HL := Lib.hid (bitsN_le n)
      have hk9 : (k : Int) ≤ 1000 := by have := HK.out; have := HL.out; omega
      have hw2 : IntKind.i64.wrap ((m / 2 : Nat) : Int) = ((m / 2 : Nat) : Int) := IntWalk.i64_in _ (by omega)
      go_wp2_with fail
      go_roundw
      case rel => exact ⟨m / 2, k + 1, by omega, by go_num, by go_num, Lib.hid (by have := HK.out; have := HB.out; omega), HW⟩
      case measure => simp [intOf]; omega
    · obtain rfl : m = 0 := by omega
      go_wp2_with fail
      go_ret
      refine ⟨?_, HW.out⟩
      have := HK.out
      simp only [bitsN, Nat.add_zero] at this
      rw [← this]; rfl

end Go.Proofs.YtjcegmbfipjdcaaGreatDoor

namespace Go.Proofs.YtjcegmbfipjdcaaGreatDoor

theorem flush_le (cur : List UInt8) : ∀ x ∈ flush cur, x.length ≤ 30 := by
  intro x hx
  unfold flush at hx
  split at hx
  · rename_i h
    simp only [List.mem_singleton] at hx
    subst hx; exact h.2
  · cases hx
theorem word_le : ∀ (l cur : List UInt8), ∀ x ∈ wordsAux l cur, x.length ≤ 30
  | [], cur => flush_le cur
  | c :: r, cur => by
    intro x hx
    rw [wordsAux] at hx
    split at hx
    · exact word_le r _ x hx
    · rcases List.mem_append.1 hx with h | h
      · exact flush_le _ x h
      · exact word_le r _ x h
theorem words_many : ∀ (l cur : List UInt8), (wordsAux l cur).length ≤ l.length + 1
  | [], cur => by have := flush_len cur; simp only [wordsAux, List.length_nil]; omega
  | c :: r, cur => by
    rw [wordsAux]
    split
    · have := words_many r (cur ++ [lowerB c]); rw [List.length_cons]; omega
    · have := words_many r []; have := flush_len cur; rw [List.length_append, List.length_cons]; omega
theorem stemFrom_le (l : List UInt8) : ∀ (f k : Nat), (stemFrom l f k).length ≤ l.length
  | 0, _ => Nat.le_refl _
  | f + 1, k => by
    rw [stemFrom]
    split
    · rw [List.length_take]; omega
    · exact stemFrom_le l f (k + 1)
theorem stem_le (l : List UInt8) : (stemL l).length ≤ l.length := by
  unfold stemL
  split
  · exact stemFrom_le l 7 0
  · exact Nat.le_refl _
end Go.Proofs.YtjcegmbfipjdcaaGreatDoor

namespace Go.Proofs.YtjcegmbfipjdcaaGreatDoor
open Go.RowKit Go.ChangeShapes Go.WideShapes Go.Deep

theorem scoresT_snoc (D : Nat) (S : List Int) (L : List TermR) (t : TermR) : scoresT D S (L ++ [t]) = addT D S (scoresT D S L) t := by simp [scoresT, List.foldl_append]
theorem addK_at {S : List Int} {W : Nat} {t : TermR} {sc : List Int} {k dn : Nat} {m z v : Int} (hd : t.docs[k]? = some (dn : Int)) (hm : t.many[k]? = some m) (hz : S[dn]? = some z) (hv : sc[dn]? = some v) : addK S W t sc k = sc.set dn (v + (m * 1000 * (W : Int)).tdiv (z + 10)) := by
  simp [addK, List.getD_eq_getElem?_getD, hd, hm, hz, hv]
theorem ScLe.set {M M' : Int} {sc : List Int} (h : ScLe M sc) (hM : M ≤ M') {i : Nat} {v : Int} (h0 : 0 ≤ v) (hv : v ≤ M') : ScLe M' (sc.set i v) := by
  intro j n hn
  rw [List.getElem?_set] at hn
  split at hn
  · split at hn
    · cases hn; exact ⟨h0, hv⟩
    · cases hn
  · have := h j n hn; omega
theorem ScLe.zero (D : Nat) : ScLe 0 (List.replicate D 0) := by
  intro i n hn
  rw [List.getElem?_replicate] at hn
  split at hn
  · cases hn; omega
  · cases hn
theorem rise_ge {l : List Int} (h : l.Pairwise (· < ·)) (h0 : ∀ (i : Nat) (d : Int), l[i]? = some d → 0 ≤ d) : ∀ (i : Nat) (d : Int), l[i]? = some d → (i : Int) ≤ d
  | 0, d, hd => by have := h0 0 d hd; omega
  | i + 1, d, hd => by
    obtain ⟨h1, h2⟩ := List.getElem?_eq_some_iff.1 hd
    have ih := rise_ge h h0 i l[i] (List.getElem?_eq_getElem (by omega))
    have := List.pairwise_iff_getElem.1 h i (i + 1) (by omega) h1 (by omega)
    omega
theorem term_short {n : Nat} {t : TermR} (h : termE n t = 0) : t.docs.length ≤ n := by
  obtain ⟨h0, h1⟩ := term_lens h
  have hl : t.docs.length - 1 < t.docs.length := by omega
  have e := List.getElem?_eq_getElem hl
  have p : ∀ (i : Nat) (d : Int), t.docs[i]? = some d → 0 ≤ d ∧ d < n := by
    intro i d hd
    have hi := (List.getElem?_eq_some_iff.1 hd).1
    have := term_post h hd (List.getElem?_eq_getElem (by omega : i < t.many.length))
    omega
  have g := rise_ge (term_rise h) (fun i d hd => (p i d hd).1) _ _ e
  have := (p _ _ e).2
  omega
/-- the scores of the terms L, and within the next term t those of its first k places -/
structure InSc (D : Nat) (S : List Int) (L : List TermR) (t : TermR) (k : Nat) (sc : List Int) : Prop where
  eq : sc = (List.range k).foldl (addK S (bitsN (D / t.docs.length)) t) (scoresT D S L)
  len : sc.length = D
  le : ScLe (((L.length * 120 + k) * 4200000000 : Nat) : Int) sc
structure OutSc (D : Nat) (S : List Int) (L : List TermR) (sc : List Int) : Prop where
  eq : sc = scoresT D S L
  len : sc.length = D
  le : ScLe ((L.length * 120 * 4200000000 : Nat) : Int) sc
theorem OutSc.zero (D : Nat) (S : List Int) : OutSc D S [] (List.replicate D 0) := ⟨rfl, List.length_replicate, by simpa using ScLe.zero D⟩
theorem OutSc.start {D : Nat} {S : List Int} {L : List TermR} {sc : List Int} (h : OutSc D S L sc) (t : TermR) : InSc D S L t 0 sc := ⟨h.eq, h.len, h.le⟩
theorem InSc.done {D : Nat} {S : List Int} {L : List TermR} {sc : List Int} {t : TermR} (h : InSc D S L t t.docs.length sc) (hk : t.docs.length ≤ 120) : OutSc D S (L ++ [t]) sc := by
  refine ⟨?_, h.len, ?_⟩
  · rw [scoresT_snoc, addT]; exact h.eq
  · intro i n hn
    have h1 := h.le i n hn
    rw [List.length_append, List.length_singleton]
    have h2 : (L.length * 120 + t.docs.length) * 4200000000 ≤ (L.length + 1) * 120 * 4200000000 := Nat.mul_le_mul_right _ (by omega)
    exact ⟨h1.1, Int.le_trans h1.2 (Int.ofNat_le.2 h2)⟩
theorem InSc.next {D : Nat} {S : List Int} {L : List TermR} {sc : List Int} {t : TermR} {k dn : Nat} {m z v : Int} (h : InSc D S L t k sc) (hd : t.docs[k]? = some (dn : Int)) (hm : t.many[k]? = some m) (hz : S[dn]? = some z) (hv : sc[dn]? = some v)
    (h0 : 0 ≤ (m * 1000 * ((bitsN (D / t.docs.length) : Nat) : Int)).tdiv (z + 10)) (h1 : (m * 1000 * ((bitsN (D / t.docs.length) : Nat) : Int)).tdiv (z + 10) ≤ 4200000000) :
    InSc D S L t (k + 1) (sc.set dn (v + (m * 1000 * ((bitsN (D / t.docs.length) : Nat) : Int)).tdiv (z + 10))) := by
  refine ⟨?_, by rw [List.length_set]; exact h.len, ?_⟩
  · rw [List.range_succ, List.foldl_append, ← h.eq]
    exact (addK_at hd hm hz hv).symm
  · have hle := h.le
    have hb := hle dn v hv
    have e : (((L.length * 120 + (k + 1)) * 4200000000 : Nat) : Int) = (((L.length * 120 + k) * 4200000000 : Nat) : Int) + 4200000000 := by omega
    rw [e]
    generalize (((L.length * 120 + k) * 4200000000 : Nat) : Int) = M at hle hb
    exact hle.set (by omega) (by omega) (by omega)
theorem InSc.small {D : Nat} {S : List Int} {L : List TermR} {sc : List Int} {t : TermR} {k i : Nat} {v : Int} (h : InSc D S L t k sc) (hL : L.length ≤ 400000) (hk : k ≤ 120) (hv : sc[i]? = some v) : 0 ≤ v ∧ v ≤ 210000000000000000 := by
  have := h.le i v hv
  omega

/-- the numbers as cells of a block -/
def scC (sc : List Int) : Array Value := (sc.map (Value.int .i64)).toArray
theorem scC_get {sc : List Int} {i : Nat} {v : Int} (h : sc[i]? = some v) : (scC sc)[i]? = some (.int .i64 v) := by simp [scC, h]
theorem scC_set (sc : List Int) (i : Nat) (v : Int) : (scC sc).setIfInBounds i (.int .i64 v) = scC (sc.set i v) := by
  apply Array.ext'
  simp [scC, List.map_set]
theorem scC_zero (D : Nat) : (madeCells #[.int .i64 0] D) = scC (List.replicate D 0) := by
  apply Array.ext'
  rw [toList_madeCells_one]
  simp [scC]
structure SW (w : World) (N g : Nat) (dv sv tv : Value) (X : World → Prop) (sc : List Int) (wr : World) : Prop where
  below : Below N w wr
  box : CB wr N 33 #[dv, sv, tv]
  sc : CB wr g 3 (scC sc)
  x : X wr
  ge : N < g
structure XK (g : Nat) (X : World → Prop) : Prop where
  below : ∀ w1 w2 : World, X w1 → Below w1.heap.size w1 w2 → X w2
  set : ∀ (w1 : World) (i : Nat) (v : Value), X w1 → X (w1.setCell ⟨g, i, none⟩ v)
theorem SW.lt {w wr : World} {N g : Nat} {dv sv tv : Value} {X : World → Prop} {sc : List Int} (h : SW w N g dv sv tv X sc wr) : N ≤ wr.heap.size := by have := h.sc.lt; have := h.ge; omega
theorem SW.go {w wr w2 : World} {N g : Nat} {dv sv tv : Value} {X : World → Prop} {sc : List Int} (h : SW w N g dv sv tv X sc wr) (k : XK g X) (hb : Below wr.heap.size wr w2) : SW w N g dv sv tv X sc w2 :=
  ⟨h.below.trans (hb.mono h.lt), h.box.below hb, h.sc.below hb, k.below _ _ h.x hb, h.ge⟩
theorem SW.alloc {w wr : World} {N g : Nat} {dv sv tv : Value} {X : World → Prop} {sc : List Int} (h : SW w N g dv sv tv X sc wr) (k : XK g X) (o : Obj) : SW w N g dv sv tv X sc (wr.alloc o) := h.go k ((Below.refl _ _).alloc (Nat.le_refl _) _)
theorem SW.drew {w wr : World} {N g : Nat} {dv sv tv : Value} {X : World → Prop} {sc : List Int} (h : SW w N g dv sv tv X sc wr) (k : XK g X) : SW w N g dv sv tv X sc wr.drew := h.go k ((Below.refl _ _).drew)
theorem SW.put {w wr : World} {N g : Nat} {dv sv tv : Value} {X : World → Prop} {sc : List Int} (h : SW w N g dv sv tv X sc wr) (k : XK g X) (i : Nat) (v : Int) : SW w N g dv sv tv X (sc.set i v) (wr.setCell ⟨g, i, none⟩ (.int .i64 v)) := by
  have hg := h.ge
  refine ⟨h.below.setCell (by show N ≤ g; omega) _, h.box.other (grown_setB _ _ _ _) (by intro e; have := Option.some.inj e; omega), ?_, k.set _ _ _ h.x, hg⟩
  rw [← scC_set]
  exact h.sc.put i _
/-- a fresh row of numbers is a block -/
theorem own_blockI {w : World} {B g n : Nat} {xs : List Value} (h : w.ownsRow B 3 1 (.slice (some ⟨g, 0, none⟩) n n) n xs) : CB w g 3 xs.toArray := by
  obtain ⟨hl, h2⟩ := h
  rcases h2 with ⟨h3, _⟩ | ⟨g', cap', cur, h3, hB, hg, hnc, hm, hsz, htake⟩
  · cases h3
  · cases h3
    have : cur = xs.toArray := by
      apply Array.ext'
      rw [← htake, List.take_of_length_le (by simp [hsz])]
    rw [← this]
    exact hg
theorem info_int : (Tryz.prog.info? 3).map (fun i => (i.zero, i.size, i.bytes)) = some (some (.int .i64 0), 1, 8) := by kernel_rfl
end Go.Proofs.YtjcegmbfipjdcaaGreatDoor
