/-
  The merging of sorted runs in place (rotations), plainly.
-/
import Derived.Sort.Lot0
namespace Go.Proofs.YtnanogcppglapaaGreatDoor
open Go.Sort

section
variable {α : Type} [Inhabited α] {lt : α → α → Bool}

omit [Inhabited α] in
theorem swo_asym (h : SWO lt) {x y : α} (hxy : lt x y = true) : lt y x = false := by
  cases hyx : lt y x with
  | false => rfl
  | true =>
    have := h.trans x y x hxy hyx
    rw [h.irrefl] at this
    exact absurd this (by decide)

/-- n places from a on and n from b on have changed places -/
structure Swapped (d d' : Array α) (a b n : Nat) : Prop where
  size : d'.size = d.size
  l : ∀ i, i < n → d'[a + i]! = d[b + i]!
  r : ∀ i, i < n → d'[b + i]! = d[a + i]!
  o : ∀ j, (j < a ∨ a + n ≤ j) → (j < b ∨ b + n ≤ j) → d'[j]! = d[j]!
  perm : ∀ lo hi, lo ≤ a → lo ≤ b → a + n ≤ hi → b + n ≤ hi → hi ≤ d.size → PermIn lo hi d d'

theorem Swapped.start (d : Array α) (a b : Nat) : Swapped d d a b 0 := ⟨rfl, fun i h => absurd h (by omega), fun i h => absurd h (by omega), fun _ _ _ => rfl, fun lo hi _ _ _ _ _ => permIn_refl d lo hi⟩

theorem Swapped.step {d d' : Array α} {a b n : Nat} (h : Swapped d d' a b n) (hab : a + n < b) (hb : b + n < d.size) : Swapped d (swp d' (a + n) (b + n)) a b (n + 1) := by
  have hs := h.size
  refine ⟨by rw [size_swp, hs], fun i hi => ?_, fun i hi => ?_, fun j h1 h2 => ?_, fun lo hi h1 h2 h3 h4 h5 => ?_⟩
  · by_cases e : i = n
    · subst e
      rw [swp_left _ _ _ (by omega) (by omega)]
      exact h.o _ (by omega) (by omega)
    · rw [swp_other _ _ _ _ (by omega) (by omega)]
      exact h.l i (by omega)
  · by_cases e : i = n
    · subst e
      rw [swp_right _ _ _ (by omega)]
      exact h.o _ (by omega) (by omega)
    · rw [swp_other _ _ _ _ (by omega) (by omega)]
      exact h.r i (by omega)
  · rw [swp_other _ _ _ _ (by omega) (by omega)]
    exact h.o j (by omega) (by omega)
  · exact permIn_trans _ _ _ _ _ (h.perm lo hi h1 h2 (by omega) (by omega) h5) (swp_permIn d' lo hi (a + n) (b + n) (by omega) (by omega) (by omega) (by omega) (by omega))

/-- the parts [a, m) and [m, b) have changed places -/
structure Rotated (d d' : Array α) (a m b : Nat) : Prop where
  size : d'.size = d.size
  l : ∀ i, i < b - m → d'[a + i]! = d[m + i]!
  r : ∀ i, i < m - a → d'[a + (b - m) + i]! = d[a + i]!
  o : ∀ j, (j < a ∨ b ≤ j) → d'[j]! = d[j]!
  perm : PermIn a b d d'

theorem Rotated.same_l (d : Array α) (m b : Nat) : Rotated d d m m b := ⟨rfl, fun _ _ => rfl, fun i h => absurd h (by omega), fun _ _ => rfl, permIn_refl _ _ _⟩
theorem Rotated.same_r (d : Array α) (a m : Nat) : Rotated d d a m m := ⟨rfl, fun i h => absurd h (by omega), fun i _ => by rw [show a + (m - m) + i = a + i by omega], fun _ _ => rfl, permIn_refl _ _ _⟩

/-- equal parts -/
theorem rot_equal {d d' : Array α} {m i : Nat} (h : Swapped d d' (m - i) m i) (him : i ≤ m) (hb : m + i ≤ d.size) : Rotated d d' (m - i) m (m + i) := by
  refine ⟨h.size, fun k hk => h.l k (by omega), fun k hk => ?_, fun j hj => h.o j (by omega) (by omega), h.perm _ _ (by omega) (by omega) (by omega) (by omega) hb⟩
  rw [show m - i + (m + i - m) + k = m + k by omega]
  exact h.r k (by omega)

/-- the left part is the longer one -/
theorem rot_left {d d1 d' : Array α} {m i j : Nat} (hij : j < i) (him : i ≤ m) (hb : m + j ≤ d.size) (h : Swapped d d1 (m - i) m j) (k : Rotated d1 d' (m - (i - j)) m (m + j)) : Rotated d d' (m - i) m (m + j) := by
  have hs := h.size
  refine ⟨by rw [k.size, hs], fun t ht => ?_, fun t ht => ?_, fun t ht => ?_, ?_⟩
  · rw [k.o _ (by omega)]
    exact h.l t (by omega)
  · by_cases e : t < j
    · have h1 := k.l t (by omega)
      rw [show m - i + (m + j - m) + t = m - (i - j) + t by omega, h1]
      exact h.r t (by omega)
    · have h1 := k.r (t - j) (by omega)
      rw [show m - i + (m + j - m) + t = m - (i - j) + (m + j - m) + (t - j) by omega, h1, h.o _ (by omega) (by omega)]
      congr 1; omega
  · rw [k.o _ (by omega)]
    exact h.o _ (by omega) (by omega)
  · exact permIn_trans _ _ _ _ _ (h.perm _ _ (by omega) (by omega) (by omega) (by omega) hb) (permIn_mono _ _ _ _ _ _ (by omega) (by omega) (by omega) k.perm)

/-- the right part is the longer one -/
theorem rot_right {d d1 d' : Array α} {m i j : Nat} (hij : i < j) (him : i ≤ m) (hb : m + j ≤ d.size) (h : Swapped d d1 (m - i) (m + j - i) i) (k : Rotated d1 d' (m - i) m (m + (j - i))) : Rotated d d' (m - i) m (m + j) := by
  have hs := h.size
  refine ⟨by rw [k.size, hs], fun t ht => ?_, fun t ht => ?_, fun t ht => ?_, ?_⟩
  · by_cases e : t < j - i
    · rw [k.l t (by omega)]
      exact h.o _ (by omega) (by omega)
    · have h1 := k.r (t - (j - i)) (by omega)
      rw [show m - i + t = m - i + (m + (j - i) - m) + (t - (j - i)) by omega, h1, h.l _ (by omega)]
      congr 1; omega
  · rw [k.o _ (by omega), show m - i + (m + j - m) + t = m + j - i + t by omega]
    exact h.r t (by omega)
  · rw [k.o _ (by omega)]
    exact h.o _ (by omega) (by omega)
  · exact permIn_trans _ _ _ _ _ (h.perm _ _ (by omega) (by omega) (by omega) (by omega) hb) (permIn_mono _ _ _ _ _ _ (by omega) (by omega) (by omega) k.perm)

/-- one element goes up by one more place -/
theorem rot_up {d dk : Array α} {a k : Nat} (hk : a ≤ k) (hb : k + 1 < d.size) (h : Rotated d dk a (a + 1) (k + 1)) : Rotated d (swp dk k (k + 1)) a (a + 1) (k + 2) := by
  have hs := h.size
  have hx : dk[k]! = d[a]! := by
    have := h.r 0 (by omega)
    rw [show a + (k + 1 - (a + 1)) + 0 = k by omega] at this
    simpa using this
  refine ⟨by rw [size_swp, hs], fun t ht => ?_, fun t ht => ?_, fun t ht => ?_, ?_⟩
  · by_cases e : t = k - a
    · rw [show a + t = k by omega, swp_left _ _ _ (by omega) (by omega), h.o _ (by omega)]
      congr 1; omega
    · rw [swp_other _ _ _ _ (by omega) (by omega)]
      exact h.l t (by omega)
  · rw [show a + (k + 2 - (a + 1)) + t = k + 1 by omega, swp_right _ _ _ (by omega), hx]
    congr 1; omega
  · rw [swp_other _ _ _ _ (by omega) (by omega)]
    exact h.o _ (by omega)
  · exact permIn_trans _ _ _ _ _ (permIn_mono _ _ _ _ _ _ (by omega) (by omega) (by omega) h.perm) (swp_permIn dk a (k + 2) k (k + 1) (by omega) (by omega) (by omega) (by omega) (by omega))

/-- one element goes down by one more place -/
theorem rot_down {d dk : Array α} {m k : Nat} (hk : k ≤ m) (h0 : 0 < k) (hb : m < d.size) (h : Rotated d dk k m (m + 1)) : Rotated d (swp dk k (k - 1)) (k - 1) m (m + 1) := by
  have hs := h.size
  have hx : dk[k]! = d[m]! := by
    have := h.l 0 (by omega)
    simpa using this
  refine ⟨by rw [size_swp, hs], fun t ht => ?_, fun t ht => ?_, fun t ht => ?_, ?_⟩
  · rw [show k - 1 + t = k - 1 by omega, swp_right _ _ _ (by omega), hx]
    congr 1; omega
  · by_cases e : t = 0
    · subst e
      rw [show k - 1 + (m + 1 - m) + 0 = k by omega, swp_left _ _ _ (by omega) (by omega), h.o _ (by omega)]
      rfl
    · rw [swp_other _ _ _ _ (by omega) (by omega)]
      have h1 := h.r (t - 1) (by omega)
      rw [show k - 1 + (m + 1 - m) + t = k + (m + 1 - m) + (t - 1) by omega, h1]
      congr 1; omega
  · rw [swp_other _ _ _ _ (by omega) (by omega)]
    exact h.o _ (by omega)
  · exact permIn_trans _ _ _ _ _ (permIn_mono _ _ _ _ _ _ (by omega) (by omega) (by omega) h.perm) (swp_permIn dk (k - 1) (m + 1) k (k - 1) (by omega) (by omega) (by omega) (by omega) (by omega))

theorem sorted_le {d : Array α} {a b i j : Nat} (h : SortedIn lt a b d) (hS : SWO lt) (hi : a ≤ i) (hij : i ≤ j) (hj : j < b) : lt d[j]! d[i]! = false := by
  by_cases e : i = j
  · subst e; exact hS.irrefl _
  · exact h i j hi (by omega) hj

/-- the first one is put in its place -/
theorem merge_first {d d' : Array α} {a b i : Nat} (hS : SWO lt) (hi : a + 1 ≤ i) (hib : i ≤ b) (hb : b ≤ d.size) (h2 : SortedIn lt (a + 1) b d) (hl : i = a + 1 ∨ lt d[i - 1]! d[a]! = true) (hr : i = b ∨ lt d[i]! d[a]! = false)
    (h : Rotated d d' a (a + 1) i) : PermIn a b d d' ∧ SortedIn lt a b d' := by
  have hL : ∀ k, a + 1 ≤ k → k < i → lt d[a]! d[k]! = false := fun k h1 h3 => by
    rcases hl with hl | hl
    · omega
    · exact hS.ntrans _ _ _ (swo_asym hS hl) (sorted_le h2 hS h1 (by omega) (by omega))
  have hR : ∀ k, i ≤ k → k < b → lt d[k]! d[a]! = false := fun k h1 h3 => by
    rcases hr with hr | hr
    · omega
    · exact hS.ntrans _ _ _ (sorted_le h2 hS hi h1 h3) hr
  have g : ∀ t, a ≤ t → t < b → (t < i - 1 ∧ d'[t]! = d[t + 1]!) ∨ (t = i - 1 ∧ d'[t]! = d[a]!) ∨ (i ≤ t ∧ d'[t]! = d[t]!) := fun t h1 h3 => by
    by_cases e1 : t < i - 1
    · left
      have := h.l (t - a) (by omega)
      rw [show a + (t - a) = t by omega, show a + 1 + (t - a) = t + 1 by omega] at this
      exact ⟨e1, this⟩
    · by_cases e2 : t = i - 1
      · right; left
        have := h.r 0 (by omega)
        rw [show a + (i - (a + 1)) + 0 = t by omega] at this
        exact ⟨e2, by simpa using this⟩
      · right; right
        exact ⟨by omega, h.o t (by omega)⟩
  refine ⟨permIn_mono _ _ _ _ _ _ (Nat.le_refl _) hib (by omega) h.perm, fun s t hs hst ht => ?_⟩
  rcases g s hs (by omega) with ⟨c1, e1⟩ | ⟨c1, e1⟩ | ⟨c1, e1⟩ <;> rcases g t (by omega) ht with ⟨c2, e2⟩ | ⟨c2, e2⟩ | ⟨c2, e2⟩ <;> rw [e1, e2] <;> first | (exfalso; omega) | skip
  · exact h2 _ _ (by omega) (by omega) (by omega)
  · exact hL _ (by omega) (by omega)
  · exact h2 _ _ (by omega) (by omega) (by omega)
  · exact hR _ (by omega) (by omega)
  · exact h2 _ _ (by omega) (by omega) (by omega)

/-- the last one is put in its place -/
theorem merge_last {d d' : Array α} {a m i : Nat} (hS : SWO lt) (hi : a ≤ i) (him : i ≤ m) (hb : m + 1 ≤ d.size) (h2 : SortedIn lt a m d) (hl : i = a ∨ lt d[m]! d[i - 1]! = false) (hr : i = m ∨ lt d[m]! d[i]! = true)
    (h : Rotated d d' i m (m + 1)) : PermIn a (m + 1) d d' ∧ SortedIn lt a (m + 1) d' := by
  have hL : ∀ k, a ≤ k → k < i → lt d[m]! d[k]! = false := fun k h1 h3 => by
    rcases hl with hl | hl
    · omega
    · exact hS.ntrans _ _ _ hl (sorted_le h2 hS h1 (by omega) (by omega))
  have hR : ∀ k, i ≤ k → k < m → lt d[k]! d[m]! = false := fun k h1 h3 => by
    rcases hr with hr | hr
    · omega
    · exact hS.ntrans _ _ _ (sorted_le h2 hS hi h1 h3) (swo_asym hS hr)
  have g : ∀ t, a ≤ t → t < m + 1 → (t < i ∧ d'[t]! = d[t]!) ∨ (t = i ∧ d'[t]! = d[m]!) ∨ (i < t ∧ d'[t]! = d[t - 1]!) := fun t h1 h3 => by
    by_cases e1 : t < i
    · left; exact ⟨e1, h.o t (by omega)⟩
    · by_cases e2 : t = i
      · right; left
        have := h.l 0 (by omega)
        rw [show i + 0 = t by omega] at this
        exact ⟨e2, by simpa using this⟩
      · right; right
        have := h.r (t - 1 - i) (by omega)
        rw [show i + (m + 1 - m) + (t - 1 - i) = t by omega, show i + (t - 1 - i) = t - 1 by omega] at this
        exact ⟨by omega, this⟩
  refine ⟨permIn_mono _ _ _ _ _ _ hi (Nat.le_refl _) (by omega) h.perm, fun s t hs hst ht => ?_⟩
  rcases g s hs (by omega) with ⟨c1, e1⟩ | ⟨c1, e1⟩ | ⟨c1, e1⟩ <;> rcases g t (by omega) ht with ⟨c2, e2⟩ | ⟨c2, e2⟩ | ⟨c2, e2⟩ <;> rw [e1, e2] <;> first | (exfalso; omega) | skip
  · exact h2 _ _ (by omega) (by omega) (by omega)
  · exact hL _ (by omega) (by omega)
  · exact h2 _ _ (by omega) (by omega) (by omega)
  · exact hR _ (by omega) (by omega)
  · exact h2 _ _ (by omega) (by omega) (by omega)

/-- two parts are sorted, and nothing in the second one comes before what is in the first one -/
theorem sorted_cat {d : Array α} {a m b : Nat} (h1 : SortedIn lt a m d) (h2 : SortedIn lt m b d) (hc : ∀ i j, a ≤ i → i < m → m ≤ j → j < b → lt d[j]! d[i]! = false) : SortedIn lt a b d := fun i j hi hij hj => by
  by_cases e1 : j < m
  · exact h1 i j hi hij e1
  · by_cases e2 : m ≤ i
    · exact h2 i j e2 hij hj
    · exact hc i j hi (by omega) (by omega) hj

/-- what a rotation in the middle leaves: four sorted parts; start, stop: its ends; mid: where the new halves meet -/
theorem merge_mid {d d1 : Array α} {a m b start stop mid : Nat} (hS : SWO lt) (h1 : a ≤ start) (h2 : start ≤ m) (h3 : m ≤ stop) (h4 : stop ≤ b) (hm : mid + m = start + stop)
    (sa : SortedIn lt a m d) (sb : SortedIn lt m b d) (hl : start = a ∨ stop = b ∨ lt d[stop]! d[start - 1]! = false) (hr : start = m ∨ stop = m ∨ lt d[stop - 1]! d[start]! = true) (h : Rotated d d1 start m stop) :
    SortedIn lt a start d1 ∧ SortedIn lt start mid d1 ∧ SortedIn lt mid stop d1 ∧ SortedIn lt stop b d1 ∧ ∀ i j, a ≤ i → i < mid → mid ≤ j → j < b → lt d1[j]! d1[i]! = false := by
  have gA1 : ∀ t, t < start → d1[t]! = d[t]! := fun t ht => h.o t (by omega)
  have gB1 : ∀ t, start ≤ t → t < mid → d1[t]! = d[t + (m - start)]! := fun t h5 h6 => by
    have := h.l (t - start) (by omega)
    rw [show start + (t - start) = t by omega] at this
    rw [this]; congr 1; omega
  have gA2 : ∀ t, mid ≤ t → t < stop → d1[t]! = d[t - (stop - m)]! := fun t h5 h6 => by
    have := h.r (t - mid) (by omega)
    rw [show start + (stop - m) + (t - mid) = t by omega] at this
    rw [this]; congr 1; omega
  have gB2 : ∀ t, stop ≤ t → d1[t]! = d[t]! := fun t ht => h.o t (by omega)
  refine ⟨fun i j hi hij hj => ?_, fun i j hi hij hj => ?_, fun i j hi hij hj => ?_, fun i j hi hij hj => ?_, fun i j hi him hj hjb => ?_⟩
  · rw [gA1 i (by omega), gA1 j (by omega)]; exact sa _ _ hi hij (by omega)
  · rw [gB1 i (by omega) (by omega), gB1 j (by omega) (by omega)]; exact sb _ _ (by omega) (by omega) (by omega)
  · rw [gA2 i (by omega) (by omega), gA2 j (by omega) (by omega)]; exact sa _ _ (by omega) (by omega) (by omega)
  · rw [gB2 i (by omega), gB2 j (by omega)]; exact sb _ _ (by omega) (by omega) (by omega)
  · by_cases e1 : i < start
    · rw [gA1 i e1]
      by_cases e2 : j < stop
      · rw [gA2 j hj e2]; exact sorted_le sa hS hi (by omega) (by omega)
      · rw [gB2 j (by omega)]
        rcases hl with hl | hl | hl
        · omega
        · omega
        · exact hS.ntrans _ _ _ (hS.ntrans _ _ _ (sorted_le sb hS h3 (by omega) (by omega)) hl) (sorted_le sa hS hi (by omega) (by omega))
    · rw [gB1 i (by omega) him]
      by_cases e2 : j < stop
      · rw [gA2 j hj e2]
        rcases hr with hr | hr | hr
        · omega
        · omega
        · refine hS.ntrans _ _ _ (hS.ntrans _ _ _ (sorted_le sa hS (i := start) (j := j - (stop - m)) (by omega) (by omega) (by omega)) (swo_asym hS hr)) ?_
          exact sorted_le sb hS (by omega) (by omega) (by omega)
      · rw [gB2 j (by omega)]; exact sorted_le sb hS (by omega) (by omega) (by omega)

theorem sorted_keep {d d' : Array α} {a b : Nat} (h : SortedIn lt a b d) (he : ∀ i, a ≤ i → i < b → d'[i]! = d[i]!) : SortedIn lt a b d' := fun i j hi hij hj => by
  rw [he i hi (by omega), he j (by omega) hj]; exact h i j hi hij hj

/-- the halves are merged in their turn -/
theorem merge_halves {d d1 d2 d3 : Array α} {a m b start stop mid : Nat} (h1 : a ≤ start) (h2 : start ≤ m) (h3 : m ≤ stop) (h4 : stop ≤ b) (hm : mid + m = start + stop) (hb : b ≤ d.size)
    (hc : ∀ i j, a ≤ i → i < mid → mid ≤ j → j < b → lt d1[j]! d1[i]! = false) (h : Rotated d d1 start m stop)
    (k2 : PermIn a mid d1 d2 ∧ SortedIn lt a mid d2) (k3 : PermIn mid b d2 d3 ∧ SortedIn lt mid b d3) : PermIn a b d d3 ∧ SortedIn lt a b d3 := by
  have s1 := h.size
  have s2 := k2.1.1
  have s3 := k3.1.1
  refine ⟨permIn_trans _ _ _ _ _ (permIn_mono _ _ _ _ _ _ h1 h4 hb h.perm) (permIn_trans _ _ _ _ _ (permIn_mono _ _ _ _ _ _ (Nat.le_refl _) (by omega) (by omega) k2.1) (permIn_mono _ _ _ _ _ _ (by omega) (Nat.le_refl _) (by omega) k3.1)),
    sorted_cat (sorted_keep k2.2 (fun i hi him => k3.1.2.1 i (by omega))) k3.2 ?_⟩
  have c2 : ∀ j, mid ≤ j → j < b → ∀ i, a ≤ i → i < mid → lt d2[j]! d2[i]! = false := fun j hj hjb => by
    refine permIn_all d1 d2 a mid (fun x => lt d2[j]! x = false) (by omega) k2.1 (fun i hi him => ?_)
    have e : d2[j]! = d1[j]! := k2.1.2.1 j (by omega)
    rw [e]; exact hc i j hi him hj hjb
  intro i j hi him hj hjb
  have e : d3[i]! = d2[i]! := k3.1.2.1 i (by omega)
  rw [e]
  exact permIn_all d2 d3 mid b (fun x => lt x d2[i]! = false) (by omega) k3.1 (fun j hj hjb => c2 j hj hjb i hi him) j hj hjb
end
end Go.Proofs.YtnanogcppglapaaGreatDoor
