/-
  The index of documents, plainly: the documents and counts of each word, as the program's map has them and as the reference's rows have them.
-/
import Derived.Test.YtmcelgokchhpfaaGreatDoorOnceQ
namespace Go.Proofs.YtmcelgokchhpfaaGreatDoor

/-- the documents that hold a word, and how often -/
def pD (W : Nat → List UInt8 → Nat) (n : Nat) (s : List UInt8) : List Int := ((List.range n).filter fun d => decide (0 < W d s)).map fun d => ((d : Nat) : Int)
def pM (W : Nat → List UInt8 → Nat) (n : Nat) (s : List UInt8) : List Int := ((List.range n).filter fun d => decide (0 < W d s)).map fun d => ((W d s : Nat) : Int)
theorem pD_succ (W : Nat → List UInt8 → Nat) (n : Nat) (s : List UInt8) : pD W (n + 1) s = pD W n s ++ (if 0 < W n s then [(n : Int)] else []) := by
  rw [pD, List.range_succ, List.filter_append, List.map_append, pD]
  by_cases h : 0 < W n s <;> simp [h]
theorem pM_succ (W : Nat → List UInt8 → Nat) (n : Nat) (s : List UInt8) : pM W (n + 1) s = pM W n s ++ (if 0 < W n s then [((W n s : Nat) : Int)] else []) := by
  rw [pM, List.range_succ, List.filter_append, List.map_append, pM]
  by_cases h : 0 < W n s <;> simp [h]
theorem pM_len (W : Nat → List UInt8 → Nat) (n : Nat) (s : List UInt8) : (pM W n s).length = (pD W n s).length := by simp [pD, pM]
theorem pD_len (W : Nat → List UInt8 → Nat) (n : Nat) (s : List UInt8) : (pD W n s).length ≤ n := by
  rw [pD, List.length_map]
  exact Nat.le_trans (List.length_filter_le _ _) (by simp)
theorem pD_mem {W : Nat → List UInt8 → Nat} {n : Nat} {s : List UInt8} {x : Int} (h : x ∈ pD W n s) : ∃ d : Nat, d < n ∧ x = (d : Int) ∧ 0 < W d s := by
  simp only [pD, List.mem_map, List.mem_filter, List.mem_range, decide_eq_true_eq] at h
  obtain ⟨d, ⟨h1, h2⟩, rfl⟩ := h
  exact ⟨d, h1, rfl, h2⟩
theorem pM_mem {W : Nat → List UInt8 → Nat} {n : Nat} {s : List UInt8} {x : Int} (h : x ∈ pM W n s) : ∃ d : Nat, d < n ∧ x = ((W d s : Nat) : Int) ∧ 0 < W d s := by
  simp only [pM, List.mem_map, List.mem_filter, List.mem_range, decide_eq_true_eq] at h
  obtain ⟨d, ⟨h1, h2⟩, rfl⟩ := h
  exact ⟨d, h1, rfl, h2⟩
theorem pD_ne {W : Nat → List UInt8 → Nat} {n : Nat} {s : List UInt8} : pD W n s ≠ [] ↔ ∃ d, d < n ∧ 0 < W d s := by
  constructor
  · intro h
    obtain ⟨x, hx⟩ := List.exists_mem_of_ne_nil _ h
    obtain ⟨d, h1, _, h2⟩ := pD_mem hx
    exact ⟨d, h1, h2⟩
  · rintro ⟨d, h1, h2⟩ h
    have : (d : Int) ∈ pD W n s := by
      simp only [pD, List.mem_map, List.mem_filter, List.mem_range, decide_eq_true_eq]
      exact ⟨d, ⟨h1, h2⟩, rfl⟩
    rw [h] at this; simp at this
theorem pD_congr {W W' : Nat → List UInt8 → Nat} {n : Nat} {s : List UInt8} (h : ∀ d, d < n → W d s = W' d s) : pD W n s = pD W' n s ∧ pM W n s = pM W' n s := by
  induction n with
  | zero => exact ⟨rfl, rfl⟩
  | succ n ih =>
    obtain ⟨i1, i2⟩ := ih (fun d hd => h d (by omega))
    rw [pD_succ, pD_succ, pM_succ, pM_succ, i1, i2, h n (by omega)]
    exact ⟨rfl, rfl⟩

/-- the same, in the midst of document n, of which v is counted -/
def qD (W : Nat → List UInt8 → Nat) (n : Nat) (v : List UInt8 → Nat) (s : List UInt8) : List Int := pD W n s ++ (if 0 < v s then [(n : Int)] else [])
def qM (W : Nat → List UInt8 → Nat) (n : Nat) (v : List UInt8 → Nat) (s : List UInt8) : List Int := pM W n s ++ (if 0 < v s then [((v s : Nat) : Int)] else [])
def vAdd (v : List UInt8 → Nat) (s : List UInt8) (m : Nat) : List UInt8 → Nat := fun t => if t = s then v t + m else v t
theorem vAdd_same (v : List UInt8 → Nat) (s : List UInt8) (m : Nat) : vAdd v s m s = v s + m := if_pos rfl
theorem vAdd_ne (v : List UInt8 → Nat) {s t : List UInt8} (m : Nat) (h : t ≠ s) : vAdd v s m t = v t := if_neg h
section
variable {W : Nat → List UInt8 → Nat} {n : Nat} {v : List UInt8 → Nat} {s t : List UInt8} {m : Nat}
theorem qD_ne (h : t ≠ s) : qD W n (vAdd v s m) t = qD W n v t := by rw [qD, vAdd_ne _ _ h, qD]
theorem qM_ne (h : t ≠ s) : qM W n (vAdd v s m) t = qM W n v t := by rw [qM, vAdd_ne _ _ h, qM]
theorem qD_new (hm : 0 < m) (h : v s = 0) : qD W n (vAdd v s m) s = qD W n v s ++ [(n : Int)] := by
  rw [qD, vAdd_same, qD, h, if_pos (by omega), if_neg (by omega), List.append_nil]
theorem qM_new (hm : 0 < m) (h : v s = 0) : qM W n (vAdd v s m) s = qM W n v s ++ [((m : Nat) : Int)] := by
  rw [qM, vAdd_same, qM, h, if_pos (by omega), if_neg (by omega), List.append_nil, Nat.zero_add]
theorem qD_old (h : 0 < v s) : qD W n (vAdd v s m) s = qD W n v s := by
  rw [qD, vAdd_same, qD, if_pos h, if_pos (by omega)]
theorem qD_len : (qM W n v s).length = (qD W n v s).length := by
  rw [qD, qM, List.length_append, List.length_append, pM_len]
  split <;> rfl
theorem qD_le : (qD W n v s).length ≤ n + 1 := by
  have := pD_len W n s
  rw [qD, List.length_append]
  split <;> simp <;> omega
theorem qM_old (h : 0 < v s) : ∃ k, k + 1 = (qM W n v s).length ∧ (qM W n v s)[k]? = some ((v s : Nat) : Int) ∧ qM W n (vAdd v s m) s = (qM W n v s).set k (((v s : Nat) : Int) + ((m : Nat) : Int)) := by
  refine ⟨(pM W n s).length, ?_, ?_, ?_⟩
  · rw [qM, if_pos h, List.length_append]; rfl
  · rw [qM, if_pos h, List.getElem?_append_right (Nat.le_refl _), Nat.sub_self]; rfl
  · rw [qM, vAdd_same, qM, if_pos h, if_pos (by omega), List.set_append_right _ _ (Nat.le_refl _), Nat.sub_self]
    simp
/-- the last document of a word's row -/
theorem qD_last_old (h : 0 < v s) : ∃ k, k + 1 = (qD W n v s).length ∧ (qD W n v s)[k]? = some (n : Int) := by
  refine ⟨(pD W n s).length, ?_, ?_⟩
  · rw [qD, if_pos h, List.length_append]; rfl
  · rw [qD, if_pos h, List.getElem?_append_right (Nat.le_refl _), Nat.sub_self]; rfl
theorem qD_last_new (h : v s = 0) {k : Nat} {x : Int} (hx : (qD W n v s)[k]? = some x) : x ≠ (n : Int) := by
  rw [qD, if_neg (by omega), List.append_nil] at hx
  obtain ⟨d, h1, rfl, _⟩ := pD_mem (List.mem_of_getElem? hx)
  omega
theorem qD_zero (h : ∀ x, v x = 0) : qD W n v s = pD W n s ∧ qM W n v s = pM W n s := by
  rw [qD, qM, h s, if_neg (by omega), if_neg (by omega), List.append_nil, List.append_nil]
  exact ⟨rfl, rfl⟩
theorem qD_done (h : ∀ x, v x = W n x) : qD W n v s = pD W (n + 1) s ∧ qM W n v s = pM W (n + 1) s := by
  rw [qD, qM, h s, pD_succ, pM_succ]
  exact ⟨rfl, rfl⟩
end

/-- what is counted of a document's words when k of them are done; a: the title's -/
def vK (a : Nat) (L : List (List UInt8)) : Nat → List UInt8 → Nat
  | 0 => fun _ => 0
  | k + 1 => match L[k]? with | none => vK a L k | some s => vAdd (vK a L k) s (if k < a then 3 else 1)
theorem vK_at {a : Nat} {L : List (List UInt8)} {k : Nat} {s : List UInt8} (h : L[k]? = some s) : vK a L (k + 1) = vAdd (vK a L k) s (if k < a then 3 else 1) := by rw [vK, h]
theorem count_snoc (l : List (List UInt8)) (x y : List UInt8) : (l ++ [x]).count y = l.count y + (if y = x then 1 else 0) := by
  rw [List.count_append]
  by_cases h : y = x
  · subst h; simp
  · rw [if_neg h, List.count_singleton]
    have : (x == y) = false := by simpa using fun e => h e.symm
    rw [this]; rfl
theorem vK_eq (a : Nat) (L : List (List UInt8)) (s : List UInt8) : ∀ k, k ≤ L.length → vK a L k s = 3 * ((L.take k).take a).count s + ((L.take k).drop a).count s
  | 0, _ => by simp [vK]
  | k + 1, hk => by
    have ih := vK_eq a L s k (by omega)
    have hx : L[k]? = some (L[k]'(by omega)) := List.getElem?_eq_getElem (by omega)
    have ht : L.take (k + 1) = L.take k ++ [L[k]'(by omega)] := List.take_succ_eq_append_getElem (by omega)
    have hl : (L.take k).length = k := by rw [List.length_take]; omega
    rw [vK_at hx, ht]
    by_cases h : k < a
    · have e1 : (L.take k ++ [L[k]'(by omega)]).take a = L.take k ++ [L[k]'(by omega)] := List.take_of_length_le (by rw [List.length_append, hl]; simp; omega)
      have e2 : (L.take k ++ [L[k]'(by omega)]).drop a = [] := List.drop_eq_nil_of_le (by rw [List.length_append, hl]; simp; omega)
      have e3 : (L.take k).take a = L.take k := List.take_of_length_le (by omega)
      have e4 : (L.take k).drop a = [] := List.drop_eq_nil_of_le (by omega)
      rw [e3, e4] at ih
      rw [e1, e2, count_snoc, vAdd, if_pos h, ih]
      split <;> simp <;> omega
    · have e1 : (L.take k ++ [L[k]'(by omega)]).take a = (L.take k).take a := by rw [List.take_append_of_le_length (by omega)]
      have e2 : (L.take k ++ [L[k]'(by omega)]).drop a = (L.take k).drop a ++ [L[k]'(by omega)] := by rw [List.drop_append_of_le_length (by omega)]
      rw [e1, e2, count_snoc, vAdd, if_neg h, ih]
      split <;> omega
theorem vK_all (A B : List (List UInt8)) (s : List UInt8) : vK A.length (A ++ B) (A ++ B).length s = 3 * A.count s + B.count s := by
  rw [vK_eq _ _ _ _ (Nat.le_refl _), List.take_length, List.take_left' rfl, List.drop_left' rfl]
theorem vK_le (a : Nat) (L : List (List UInt8)) (s : List UInt8) (k : Nat) (hk : k ≤ L.length) : vK a L k s ≤ 4 * L.length := by
  rw [vK_eq a L s k hk]
  have h1 := List.count_le_length (a := s) (l := (L.take k).take a)
  have h2 := List.count_le_length (a := s) (l := (L.take k).drop a)
  rw [List.length_take, List.length_take] at h1
  rw [List.length_drop, List.length_take] at h2
  omega

/-- the reference's row of a document: every word of the title thrice -/
def thrice (A : List (List UInt8)) : List (List UInt8) := A.flatMap fun s => [s, s, s]
theorem thrice_snoc (A : List (List UInt8)) (x : List UInt8) : thrice (A ++ [x]) = thrice A ++ [x, x, x] := by simp [thrice]
theorem thrice_len (A : List (List UInt8)) : (thrice A).length = 3 * A.length := by
  induction A with
  | nil => rfl
  | cons a A ih => simp only [thrice, List.flatMap_cons, List.length_append, List.length_cons, List.length_nil] at ih ⊢; omega
theorem thrice_count (A : List (List UInt8)) (s : List UInt8) : (thrice A).count s = 3 * A.count s := by
  induction A with
  | nil => rfl
  | cons a A ih =>
    simp only [thrice, List.flatMap_cons, List.count_append, List.count_cons, List.count_nil] at ih ⊢
    omega
def ownL (A B : List (List UInt8)) : List (List UInt8) := thrice A ++ B
theorem own_count (A B : List (List UInt8)) (s : List UInt8) : (ownL A B).count s = 3 * A.count s + B.count s := by rw [ownL, List.count_append, thrice_count]

/-- names and counts of a sorted row -/
def cntL (M : List (List UInt8)) (k : Nat) : List Int := (onceL M k).map fun s => (((M.take k).count s : Nat) : Int)
theorem cnt_yes {M : List (List UInt8)} (hs : M.Pairwise (· ≤ ·)) {k : Nat} {x : List UInt8} (h : M[k]? = some x) (hx : k = 0 ∨ M[k - 1]? ≠ some x) : cntL M (k + 1) = cntL M k ++ [1] := by
  have hk : k < M.length := (List.getElem?_eq_some_iff.1 h).1
  obtain ⟨hp, _⟩ := once_facts hs (k + 1) (by omega)
  have hm := (once_facts hs k (by omega)).2
  rw [once_yes h hx] at hp
  have ht : M.take (k + 1) = M.take k ++ [x] := by
    obtain ⟨h1, rfl⟩ := List.getElem?_eq_some_iff.1 h
    exact List.take_succ_eq_append_getElem h1
  obtain ⟨_, _, h3⟩ := List.pairwise_append.1 hp
  rw [cntL, once_yes h hx, List.map_append, ht]
  have hne : ∀ y ∈ onceL M k, y ≠ x := fun y hy e => by
    have := h3 y hy x (by simp)
    rw [e] at this
    exact List.lt_irrefl _ this
  congr 1
  · rw [cntL]
    exact List.map_congr_left (fun y hy => by rw [count_snoc, if_neg (hne y hy)]; rfl)
  · have : (M.take k).count x = 0 := List.count_eq_zero.2 (fun hx => hne x ((hm x).2 hx) rfl)
    rw [List.map_cons, List.map_nil, count_snoc, if_pos rfl, this]
    rfl
theorem cnt_no {M : List (List UInt8)} (hs : M.Pairwise (· ≤ ·)) {k : Nat} {x : List UInt8} (h : M[k]? = some x) (h0 : k ≠ 0) (hx : M[k - 1]? = some x) :
    ∃ j c, j + 1 = (cntL M k).length ∧ (cntL M k)[j]? = some c ∧ 0 ≤ c ∧ c ≤ (k : Int) ∧ cntL M (k + 1) = (cntL M k).set j (c + 1) := by
  have hk : k < M.length := (List.getElem?_eq_some_iff.1 h).1
  obtain ⟨hp, hm⟩ := once_facts hs k (by omega)
  have ht : M.take (k + 1) = M.take k ++ [x] := by
    obtain ⟨h1, rfl⟩ := List.getElem?_eq_some_iff.1 h
    exact List.take_succ_eq_append_getElem h1
  have hxk : x ∈ M.take k := List.mem_of_getElem? (i := k - 1) (by rw [List.getElem?_take, if_pos (by omega)]; exact hx)
  have hxo : x ∈ onceL M k := (hm x).2 hxk
  have hall : ∀ y ∈ onceL M k, y ≤ x := fun y hy => by
    obtain ⟨i, hi⟩ := List.getElem?_of_mem ((hm y).1 hy)
    rw [List.getElem?_take] at hi
    split at hi
    · exact sorted_at hs hi h (by omega)
    · cases hi
  obtain ⟨P, hP⟩ : ∃ P, onceL M k = P ++ [x] := by
    rcases List.eq_nil_or_concat (onceL M k) with h1 | ⟨P, z, h1⟩
    · rw [h1] at hxo; simp at hxo
    · rw [List.concat_eq_append] at h1
      rw [h1] at hxo hall hp
      refine ⟨P, ?_⟩
      rw [h1]
      rcases List.mem_append.1 hxo with h2 | h2
      · have h3 := (List.pairwise_append.1 hp).2.2 x h2 z (by simp)
        have h4 := hall z (by simp)
        exact absurd (Std.lt_of_lt_of_le h3 h4) (List.lt_irrefl _)
      · simp at h2; rw [h2]
  have hne : ∀ y ∈ P, y ≠ x := fun y hy e => by
    rw [hP] at hp
    have := (List.pairwise_append.1 hp).2.2 y hy x (by simp)
    rw [e] at this
    exact List.lt_irrefl _ this
  refine ⟨P.length, (((M.take k).count x : Nat) : Int), by simp [cntL, hP], by simp [cntL, hP], by omega, ?_, ?_⟩
  · have h1 := List.count_le_length (a := x) (l := M.take k)
    rw [List.length_take] at h1
    omega
  · rw [cntL, once_no h h0 hx, cntL, hP, List.map_append, List.map_append, ht]
    rw [List.set_append_right _ _ (by simp)]
    congr 1
    · exact List.map_congr_left (fun y hy => by rw [count_snoc, if_neg (hne y hy)]; rfl)
    · simp only [List.map_cons, List.map_nil, List.length_map, Nat.sub_self, List.set_cons_zero]
      rw [count_snoc, if_pos rfl]
      rfl
theorem cntL_len (M : List (List UInt8)) (k : Nat) : (cntL M k).length = (onceL M k).length := by simp [cntL]

def srt (L : List (List UInt8)) : List (List UInt8) := L.mergeSort fun x y => decide (x ≤ y)
theorem srt_sorted (L : List (List UInt8)) : (srt L).Pairwise (· ≤ ·) := by
  have := List.pairwise_mergeSort (le := fun x y : List UInt8 => decide (x ≤ y)) (fun a b c h1 h2 => by simp only [decide_eq_true_eq] at *; exact List.le_trans h1 h2) (fun a b => by simp only [Bool.or_eq_true, decide_eq_true_eq]; exact List.le_total a b) L
  exact this.imp (fun {a b} h => by simpa using h)
theorem srt_len (L : List (List UInt8)) : (srt L).length = L.length := List.length_mergeSort _
def namesL (L : List (List UInt8)) : List (List UInt8) := onceL (srt L) (srt L).length
theorem namesL_lt (L : List (List UInt8)) : (namesL L).Pairwise (· < ·) := (once_sorted L).1
theorem namesL_mem (L : List (List UInt8)) (x : List UInt8) : x ∈ namesL L ↔ x ∈ L := (once_sorted L).2 x
theorem countsL (L : List (List UInt8)) : cntL (srt L) (srt L).length = (namesL L).map fun s => ((L.count s : Nat) : Int) := by
  rw [cntL, List.take_length]
  exact List.map_congr_left (fun y _ => by rw [srt, (List.mergeSort_perm L _).count_eq])
theorem lt_unique {l1 l2 : List (List UInt8)} (h1 : l1.Pairwise (· < ·)) (h2 : l2.Pairwise (· < ·)) (h : ∀ x, x ∈ l1 ↔ x ∈ l2) : l1 = l2 := by
  refine List.Perm.eq_of_pairwise (le := fun x y => x < y) (fun a b _ _ h1 h2 => absurd (List.lt_trans h1 h2) (List.lt_irrefl _)) h1 h2 ?_
  refine (List.perm_ext_iff_of_nodup ?_ ?_).2 (fun a => h a)
  · exact h1.imp (fun {a b} h (e : a = b) => by rw [e] at h; exact List.lt_irrefl _ h)
  · exact h2.imp (fun {a b} h (e : a = b) => by rw [e] at h; exact List.lt_irrefl _ h)
theorem lt_nodup {l : List (List UInt8)} (h : l.Pairwise (· < ·)) : l.Nodup := h.imp (fun {a b} h (e : a = b) => by rw [e] at h; exact List.lt_irrefl _ h)

/-- how many names of a row are among the first q of all -/
def aq (S N : List (List UInt8)) (q : Nat) : Nat := (N.filter fun x => (S.take q).contains x).length
theorem aq_zero (S N : List (List UInt8)) : aq S N 0 = 0 := by
  have : (N.filter fun x => (S.take 0).contains x) = [] := by rw [List.filter_eq_nil_iff]; simp
  rw [aq, this]; rfl
theorem aq_le (S N : List (List UInt8)) (q : Nat) : aq S N q ≤ N.length := List.length_filter_le _ _
theorem aq_split {S N : List (List UInt8)} (hS : S.Pairwise (· < ·)) (hN : N.Pairwise (· < ·)) (hsub : ∀ x ∈ N, x ∈ S) (q : Nat) :
    N = N.filter (fun x => (S.take q).contains x) ++ N.filter (fun x => !(S.take q).contains x) := by
  refine lt_unique hN ?_ (fun x => ?_)
  · rw [List.pairwise_append]
    refine ⟨hN.filter _, hN.filter _, fun x hx y hy => ?_⟩
    obtain ⟨hx1, hx2⟩ := List.mem_filter.1 hx
    obtain ⟨hy1, hy2⟩ := List.mem_filter.1 hy
    have hx3 : x ∈ S.take q := by simpa using hx2
    have hy3 : y ∉ S.take q := by simpa using hy2
    have hy4 : y ∈ S.drop q := by
      have := hsub y hy1
      rw [← List.take_append_drop q S] at this
      rcases List.mem_append.1 this with h | h
      · exact absurd h hy3
      · exact h
    rw [← List.take_append_drop q S] at hS
    exact (List.pairwise_append.1 hS).2.2 x hx3 y hy4
  · rw [List.mem_append, List.mem_filter, List.mem_filter]
    cases (S.take q).contains x <;> simp
theorem aq_step {S N : List (List UInt8)} (hS : S.Pairwise (· < ·)) (hN : N.Pairwise (· < ·)) (hsub : ∀ x ∈ N, x ∈ S) {q : Nat} {s : List UInt8} (hq : S[q]? = some s) :
    (s ∈ N ∧ N[aq S N q]? = some s ∧ aq S N (q + 1) = aq S N q + 1) ∨ (s ∉ N ∧ N[aq S N q]? ≠ some s ∧ aq S N (q + 1) = aq S N q) := by
  have hs := aq_split hS hN hsub q
  have ht : S.take (q + 1) = S.take q ++ [s] := by
    obtain ⟨h1, rfl⟩ := List.getElem?_eq_some_iff.1 hq
    exact List.take_succ_eq_append_getElem h1
  have hsq : s ∉ S.take q := fun hm => by
    have h3 : S = S.take q ++ S.drop q := (List.take_append_drop q S).symm
    have h2 : s ∈ S.drop q := List.mem_of_getElem? (i := 0) (by rw [List.getElem?_drop]; exact hq)
    rw [h3] at hS
    exact List.lt_irrefl _ ((List.pairwise_append.1 hS).2.2 s hm s h2)
  have hcnt : aq S N (q + 1) = aq S N q + N.count s := by
    rw [aq, aq, ht]
    clear hs hN hsub
    induction N with
    | nil => rfl
    | cons y N ih =>
      rw [List.filter_cons, List.filter_cons, List.count_cons]
      by_cases hy : y = s
      · subst hy
        have e1 : (S.take q).contains y = false := by simpa using hsq
        have e2 : (S.take q ++ [y]).contains y = true := by simp
        rw [e1, e2, if_pos rfl, if_neg (by simp), List.length_cons, ih]
        simp; omega
      · have e3 : (S.take q ++ [s]).contains y = (S.take q).contains y := by simp [hy]
        have e4 : (y == s) = false := by simpa using hy
        rw [e3, e4]
        cases (S.take q).contains y
        · rw [if_neg (by simp), if_neg (by simp), ih]; simp
        · rw [if_pos rfl, if_pos rfl, List.length_cons, List.length_cons, ih]; simp; omega
  have hget : N[aq S N q]? = (N.filter (fun x => !(S.take q).contains x))[0]? := by
    conv => lhs; rw [hs]
    rw [aq, List.getElem?_append_right (by rw [← hs]; exact Nat.le_refl _)]
    rw [← hs, Nat.sub_self]
  by_cases hm : s ∈ N
  · refine Or.inl ⟨hm, ?_, by rw [hcnt, (lt_nodup hN).count]; simp [hm]⟩
    rw [hget]
    have hmf : s ∈ N.filter (fun x => !(S.take q).contains x) := List.mem_filter.2 ⟨hm, by simpa using hsq⟩
    cases hB : N.filter (fun x => !(S.take q).contains x) with
    | nil => rw [hB] at hmf; simp at hmf
    | cons y B =>
      rw [hB] at hmf
      have hyB : y ∈ N.filter (fun x => !(S.take q).contains x) := by rw [hB]; simp
      obtain ⟨hy1, hy2⟩ := List.mem_filter.1 hyB
      have hy3 : y ∉ S.take q := by simpa using hy2
      have hB2 : (y :: B).Pairwise (· < ·) := by rw [← hB]; exact hN.filter _
      rcases List.mem_cons.1 hmf with e | h2
      · rw [e]; rfl
      · exfalso
        have h5 := (List.pairwise_cons.1 hB2).1 s h2
        have h6 : y ∈ S.drop q := by
          have := hsub y hy1
          rw [← List.take_append_drop q S] at this
          rcases List.mem_append.1 this with h | h
          · exact absurd h hy3
          · exact h
        have h7 : S.drop q = s :: S.drop (q + 1) := by
          obtain ⟨h1, rfl⟩ := List.getElem?_eq_some_iff.1 hq
          exact List.drop_eq_getElem_cons h1
        have h8 : (S.drop q).Pairwise (· < ·) := hS.drop
        rw [h7] at h6 h8
        rcases List.mem_cons.1 h6 with e | h9
        · rw [e] at h5; exact List.lt_irrefl _ h5
        · exact List.lt_irrefl _ (List.lt_trans h5 ((List.pairwise_cons.1 h8).1 y h9))
  · refine Or.inr ⟨hm, ?_, by rw [hcnt, List.count_eq_zero.2 hm]; rfl⟩
    intro h
    exact hm (List.mem_of_getElem? h)

end Go.Proofs.YtmcelgokchhpfaaGreatDoor
