/-
  sort.SliceStable at rows of structs, at whatever length: a permutation, sorted.
-/
import Derived.Sort.Lot0
import Derived.Test.YtbhildmalcfhiaaGreatDoorBase
import Derived.Test.YtbhildmalcfhiaaGreatDoorShelf
import Derived.Shelf.SlSortFuncK.SWK
import Derived.Deep.DeepMust
import Derived.Sort.LotA
import Derived.Shelf.GgSortMore.Stable
import Derived.Shelf.SlSortFuncK.WholeK
namespace Go.Proofs.YtbhildmalcfhiaaGreatDoor
open Go.Sort

section
variable {α : Type} [Inhabited α] {lt : α → α → Bool}

omit [Inhabited α] in
theorem swo_asym (h : SWO lt) {x y : α} (hxy : lt x y = true) : lt y x = false := by
  cases hyx : lt y x with
  | false => rfl
  | true =>
    have := h.trans x y x hxy hyx
    rw [h.irrefl] at this
    exact absurd this (by decide)

/-- n places from a on and n from b on have changed places -/
structure Swapped (d d' : Array α) (a b n : Nat) : Prop where
  size : d'.size = d.size
  l : ∀ i, i < n → d'[a + i]! = d[b + i]!
  r : ∀ i, i < n → d'[b + i]! = d[a + i]!
  o : ∀ j, (j < a ∨ a + n ≤ j) → (j < b ∨ b + n ≤ j) → d'[j]! = d[j]!
  perm : ∀ lo hi, lo ≤ a → lo ≤ b → a + n ≤ hi → b + n ≤ hi → hi ≤ d.size → PermIn lo hi d d'

theorem Swapped.start (d : Array α) (a b : Nat) : Swapped d d a b 0 := ⟨rfl, fun i h => absurd h (by omega), fun i h => absurd h (by omega), fun _ _ _ => rfl, fun lo hi _ _ _ _ _ => permIn_refl d lo hi⟩

theorem Swapped.step {d d' : Array α} {a b n : Nat} (h : Swapped d d' a b n) (hab : a + n < b) (hb : b + n < d.size) : Swapped d (swp d' (a + n) (b + n)) a b (n + 1) := by
  have hs := h.size
  refine ⟨by rw [size_swp, hs], fun i hi => ?_, fun i hi => ?_, fun j h1 h2 => ?_, fun lo hi h1 h2 h3 h4 h5 => ?_⟩
  · by_cases e : i = n
    · subst e
      rw [swp_left _ _ _ (by omega) (by omega)]
      exact h.o _ (by omega) (by omega)
    · rw [swp_other _ _ _ _ (by omega) (by omega)]
      exact h.l i (by omega)
  · by_cases e : i = n
    · subst e
      rw [swp_right _ _ _ (by omega)]
      exact h.o _ (by omega) (by omega)
    · rw [swp_other _ _ _ _ (by omega) (by omega)]
      exact h.r i (by omega)
  · rw [swp_other _ _ _ _ (by omega) (by omega)]
    exact h.o j (by omega) (by omega)
  · exact permIn_trans _ _ _ _ _ (h.perm lo hi h1 h2 (by omega) (by omega) h5) (swp_permIn d' lo hi (a + n) (b + n) (by omega) (by omega) (by omega) (by omega) (by omega))

/-- the parts [a, m) and [m, b) have changed places -/
structure Rotated (d d' : Array α) (a m b : Nat) : Prop where
  size : d'.size = d.size
  l : ∀ i, i < b - m → d'[a + i]! = d[m + i]!
  r : ∀ i, i < m - a → d'[a + (b - m) + i]! = d[a + i]!
  o : ∀ j, (j < a ∨ b ≤ j) → d'[j]! = d[j]!
  perm : PermIn a b d d'

theorem Rotated.same_l (d : Array α) (m b : Nat) : Rotated d d m m b := ⟨rfl, fun _ _ => rfl, fun i h => absurd h (by omega), fun _ _ => rfl, permIn_refl _ _ _⟩
theorem Rotated.same_r (d : Array α) (a m : Nat) : Rotated d d a m m := ⟨rfl, fun i h => absurd h (by omega), fun i _ => by rw [show a + (m - m) + i = a + i by omega], fun _ _ => rfl, permIn_refl _ _ _⟩

/-- equal parts -/
theorem rot_equal {d d' : Array α} {m i : Nat} (h : Swapped d d' (m - i) m i) (him : i ≤ m) (hb : m + i ≤ d.size) : Rotated d d' (m - i) m (m + i) := by
  refine ⟨h.size, fun k hk => h.l k (by omega), fun k hk => ?_, fun j hj => h.o j (by omega) (by omega), h.perm _ _ (by omega) (by omega) (by omega) (by omega) hb⟩
  rw [show m - i + (m + i - m) + k = m + k by omega]
  exact h.r k (by omega)

/-- the left part is the longer one -/
theorem rot_left {d d1 d' : Array α} {m i j : Nat} (hij : j < i) (him : i ≤ m) (hb : m + j ≤ d.size) (h : Swapped d d1 (m - i) m j) (k : Rotated d1 d' (m - (i - j)) m (m + j)) : Rotated d d' (m - i) m (m + j) := by
  have hs := h.size
  refine ⟨by rw [k.size, hs], fun t ht => ?_, fun t ht => ?_, fun t ht => ?_, ?_⟩
  · rw [k.o _ (by omega)]
    exact h.l t (by omega)
  · by_cases e : t < j
    · have h1 := k.l t (by omega)
      rw [show m - i + (m + j - m) + t = m - (i - j) + t by omega, h1]
      exact h.r t (by omega)
    · have h1 := k.r (t - j) (by omega)
      rw [show m - i + (m + j - m) + t = m - (i - j) + (m + j - m) + (t - j) by omega, h1, h.o _ (by omega) (by omega)]
      congr 1; omega
  · rw [k.o _ (by omega)]
    exact h.o _ (by omega) (by omega)
  · exact permIn_trans _ _ _ _ _ (h.perm _ _ (by omega) (by omega) (by omega) (by omega) hb) (permIn_mono _ _ _ _ _ _ (by omega) (by omega) (by omega) k.perm)

/-- the right part is the longer one -/
theorem rot_right {d d1 d' : Array α} {m i j : Nat} (hij : i < j) (him : i ≤ m) (hb : m + j ≤ d.size) (h : Swapped d d1 (m - i) (m + j - i) i) (k : Rotated d1 d' (m - i) m (m + (j - i))) : Rotated d d' (m - i) m (m + j) := by
  have hs := h.size
  refine ⟨by rw [k.size, hs], fun t ht => ?_, fun t ht => ?_, fun t ht => ?_, ?_⟩
  · by_cases e : t < j - i
    · rw [k.l t (by omega)]
      exact h.o _ (by omega) (by omega)
    · have h1 := k.r (t - (j - i)) (by omega)
      rw [show m - i + t = m - i + (m + (j - i) - m) + (t - (j - i)) by omega, h1, h.l _ (by omega)]
      congr 1; omega
  · rw [k.o _ (by omega), show m - i + (m + j - m) + t = m + j - i + t by omega]
    exact h.r t (by omega)
  · rw [k.o _ (by omega)]
    exact h.o _ (by omega) (by omega)
  · exact permIn_trans _ _ _ _ _ (h.perm _ _ (by omega) (by omega) (by omega) (by omega) hb) (permIn_mono _ _ _ _ _ _ (by omega) (by omega) (by omega) k.perm)

/-- one element goes up by one more place -/
theorem rot_up {d dk : Array α} {a k : Nat} (hk : a ≤ k) (hb : k + 1 < d.size) (h : Rotated d dk a (a + 1) (k + 1)) : Rotated d (swp dk k (k + 1)) a (a + 1) (k + 2) := by
  have hs := h.size
  have hx : dk[k]! = d[a]! := by
    have := h.r 0 (by omega)
    rw [show a + (k + 1 - (a + 1)) + 0 = k by omega] at this
    simpa using this
  refine ⟨by rw [size_swp, hs], fun t ht => ?_, fun t ht => ?_, fun t ht => ?_, ?_⟩
  · by_cases e : t = k - a
    · rw [show a + t = k by omega, swp_left _ _ _ (by omega) (by omega), h.o _ (by omega)]
      congr 1; omega
    · rw [swp_other _ _ _ _ (by omega) (by omega)]
      exact h.l t (by omega)
  · rw [show a + (k + 2 - (a + 1)) + t = k + 1 by omega, swp_right _ _ _ (by omega), hx]
    congr 1; omega
  · rw [swp_other _ _ _ _ (by omega) (by omega)]
    exact h.o _ (by omega)
  · exact permIn_trans _ _ _ _ _ (permIn_mono _ _ _ _ _ _ (by omega) (by omega) (by omega) h.perm) (swp_permIn dk a (k + 2) k (k + 1) (by omega) (by omega) (by omega) (by omega) (by omega))

/-- one element goes down by one more place -/
theorem rot_down {d dk : Array α} {m k : Nat} (hk : k ≤ m) (h0 : 0 < k) (hb : m < d.size) (h : Rotated d dk k m (m + 1)) : Rotated d (swp dk k (k - 1)) (k - 1) m (m + 1) := by
  have hs := h.size
  have hx : dk[k]! = d[m]! := by
    have := h.l 0 (by omega)
    simpa using this
  refine ⟨by rw [size_swp, hs], fun t ht => ?_, fun t ht => ?_, fun t ht => ?_, ?_⟩
  · rw [show k - 1 + t = k - 1 by omega, swp_right _ _ _ (by omega), hx]
    congr 1; omega
  · by_cases e : t = 0
    · subst e
      rw [show k - 1 + (m + 1 - m) + 0 = k by omega, swp_left _ _ _ (by omega) (by omega), h.o _ (by omega)]
      rfl
    · rw [swp_other _ _ _ _ (by omega) (by omega)]
      have h1 := h.r (t - 1) (by omega)
      rw [show k - 1 + (m + 1 - m) + t = k + (m + 1 - m) + (t - 1) by omega, h1]
      congr 1; omega
  · rw [swp_other _ _ _ _ (by omega) (by omega)]
    exact h.o _ (by omega)
  · exact permIn_trans _ _ _ _ _ (permIn_mono _ _ _ _ _ _ (by omega) (by omega) (by omega) h.perm) (swp_permIn dk (k - 1) (m + 1) k (k - 1) (by omega) (by omega) (by omega) (by omega) (by omega))

theorem sorted_le {d : Array α} {a b i j : Nat} (h : SortedIn lt a b d) (hS : SWO lt) (hi : a ≤ i) (hij : i ≤ j) (hj : j < b) : lt d[j]! d[i]! = false := by
  by_cases e : i = j
  · subst e; exact hS.irrefl _
  · exact h i j hi (by omega) hj

/-- the first one is put in its place -/
theorem merge_first {d d' : Array α} {a b i : Nat} (hS : SWO lt) (hi : a + 1 ≤ i) (hib : i ≤ b) (hb : b ≤ d.size) (h2 : SortedIn lt (a + 1) b d) (hl : i = a + 1 ∨ lt d[i - 1]! d[a]! = true) (hr : i = b ∨ lt d[i]! d[a]! = false)
    (h : Rotated d d' a (a + 1) i) : PermIn a b d d' ∧ SortedIn lt a b d' := by
  have hL : ∀ k, a + 1 ≤ k → k < i → lt d[a]! d[k]! = false := fun k h1 h3 => by
    rcases hl with hl | hl
    · omega
    · exact hS.ntrans _ _ _ (swo_asym hS hl) (sorted_le h2 hS h1 (by omega) (by omega))
  have hR : ∀ k, i ≤ k → k < b → lt d[k]! d[a]! = false := fun k h1 h3 => by
    rcases hr with hr | hr
    · omega
    · exact hS.ntrans _ _ _ (sorted_le h2 hS hi h1 h3) hr
  have g : ∀ t, a ≤ t → t < b → (t < i - 1 ∧ d'[t]! = d[t + 1]!) ∨ (t = i - 1 ∧ d'[t]! = d[a]!) ∨ (i ≤ t ∧ d'[t]! = d[t]!) := fun t h1 h3 => by
    by_cases e1 : t < i - 1
    · left
      have := h.l (t - a) (by omega)
      rw [show a + (t - a) = t by omega, show a + 1 + (t - a) = t + 1 by omega] at this
      exact ⟨e1, this⟩
    · by_cases e2 : t = i - 1
      · right; left
        have := h.r 0 (by omega)
        rw [show a + (i - (a + 1)) + 0 = t by omega] at this
        exact ⟨e2, by simpa using this⟩
      · right; right
        exact ⟨by omega, h.o t (by omega)⟩
  refine ⟨permIn_mono _ _ _ _ _ _ (Nat.le_refl _) hib (by omega) h.perm, fun s t hs hst ht => ?_⟩
  rcases g s hs (by omega) with ⟨c1, e1⟩ | ⟨c1, e1⟩ | ⟨c1, e1⟩ <;> rcases g t (by omega) ht with ⟨c2, e2⟩ | ⟨c2, e2⟩ | ⟨c2, e2⟩ <;> rw [e1, e2] <;> first | (exfalso; omega) | skip
  · exact h2 _ _ (by omega) (by omega) (by omega)
  · exact hL _ (by omega) (by omega)
  · exact h2 _ _ (by omega) (by omega) (by omega)
  · exact hR _ (by omega) (by omega)
  · exact h2 _ _ (by omega) (by omega) (by omega)

/-- the last one is put in its place -/
theorem merge_last {d d' : Array α} {a m i : Nat} (hS : SWO lt) (hi : a ≤ i) (him : i ≤ m) (hb : m + 1 ≤ d.size) (h2 : SortedIn lt a m d) (hl : i = a ∨ lt d[m]! d[i - 1]! = false) (hr : i = m ∨ lt d[m]! d[i]! = true)
    (h : Rotated d d' i m (m + 1)) : PermIn a (m + 1) d d' ∧ SortedIn lt a (m + 1) d' := by
  have hL : ∀ k, a ≤ k → k < i → lt d[m]! d[k]! = false := fun k h1 h3 => by
    rcases hl with hl | hl
    · omega
    · exact hS.ntrans _ _ _ hl (sorted_le h2 hS h1 (by omega) (by omega))
  have hR : ∀ k, i ≤ k → k < m → lt d[k]! d[m]! = false := fun k h1 h3 => by
    rcases hr with hr | hr
    · omega
    · exact hS.ntrans _ _ _ (sorted_le h2 hS hi h1 h3) (swo_asym hS hr)
  have g : ∀ t, a ≤ t → t < m + 1 → (t < i ∧ d'[t]! = d[t]!) ∨ (t = i ∧ d'[t]! = d[m]!) ∨ (i < t ∧ d'[t]! = d[t - 1]!) := fun t h1 h3 => by
    by_cases e1 : t < i
    · left; exact ⟨e1, h.o t (by omega)⟩
    · by_cases e2 : t = i
      · right; left
        have := h.l 0 (by omega)
        rw [show i + 0 = t by omega] at this
        exact ⟨e2, by simpa using this⟩
      · right; right
        have := h.r (t - 1 - i) (by omega)
        rw [show i + (m + 1 - m) + (t - 1 - i) = t by omega, show i + (t - 1 - i) = t - 1 by omega] at this
        exact ⟨by omega, this⟩
  refine ⟨permIn_mono _ _ _ _ _ _ hi (Nat.le_refl _) (by omega) h.perm, fun s t hs hst ht => ?_⟩
  rcases g s hs (by omega) with ⟨c1, e1⟩ | ⟨c1, e1⟩ | ⟨c1, e1⟩ <;> rcases g t (by omega) ht with ⟨c2, e2⟩ | ⟨c2, e2⟩ | ⟨c2, e2⟩ <;> rw [e1, e2] <;> first | (exfalso; omega) | skip
  · exact h2 _ _ (by omega) (by omega) (by omega)
  · exact hL _ (by omega) (by omega)
  · exact h2 _ _ (by omega) (by omega) (by omega)
  · exact hR _ (by omega) (by omega)
  · exact h2 _ _ (by omega) (by omega) (by omega)

/-- two parts are sorted, and nothing in the second one comes before what is in the first one -/
theorem sorted_cat {d : Array α} {a m b : Nat} (h1 : SortedIn lt a m d) (h2 : SortedIn lt m b d) (hc : ∀ i j, a ≤ i → i < m → m ≤ j → j < b → lt d[j]! d[i]! = false) : SortedIn lt a b d := fun i j hi hij hj => by
  by_cases e1 : j < m
  · exact h1 i j hi hij e1
  · by_cases e2 : m ≤ i
    · exact h2 i j e2 hij hj
    · exact hc i j hi (by omega) (by omega) hj

/-- what a rotation in the middle leaves: four sorted parts; start, stop: its ends; mid: where the new halves meet -/
theorem merge_mid {d d1 : Array α} {a m b start stop mid : Nat} (hS : SWO lt) (h1 : a ≤ start) (h2 : start ≤ m) (h3 : m ≤ stop) (h4 : stop ≤ b) (hm : mid + m = start + stop)
    (sa : SortedIn lt a m d) (sb : SortedIn lt m b d) (hl : start = a ∨ stop = b ∨ lt d[stop]! d[start - 1]! = false) (hr : start = m ∨ stop = m ∨ lt d[stop - 1]! d[start]! = true) (h : Rotated d d1 start m stop) :
    SortedIn lt a start d1 ∧ SortedIn lt start mid d1 ∧ SortedIn lt mid stop d1 ∧ SortedIn lt stop b d1 ∧ ∀ i j, a ≤ i → i < mid → mid ≤ j → j < b → lt d1[j]! d1[i]! = false := by
  have gA1 : ∀ t, t < start → d1[t]! = d[t]! := fun t ht => h.o t (by omega)
  have gB1 : ∀ t, start ≤ t → t < mid → d1[t]! = d[t + (m - start)]! := fun t h5 h6 => by
    have := h.l (t - start) (by omega)
    rw [show start + (t - start) = t by omega] at this
    rw [this]; congr 1; omega
  have gA2 : ∀ t, mid ≤ t → t < stop → d1[t]! = d[t - (stop - m)]! := fun t h5 h6 => by
    have := h.r (t - mid) (by omega)
    rw [show start + (stop - m) + (t - mid) = t by omega] at this
    rw [this]; congr 1; omega
  have gB2 : ∀ t, stop ≤ t → d1[t]! = d[t]! := fun t ht => h.o t (by omega)
  refine ⟨fun i j hi hij hj => ?_, fun i j hi hij hj => ?_, fun i j hi hij hj => ?_, fun i j hi hij hj => ?_, fun i j hi him hj hjb => ?_⟩
  · rw [gA1 i (by omega), gA1 j (by omega)]; exact sa _ _ hi hij (by omega)
  · rw [gB1 i (by omega) (by omega), gB1 j (by omega) (by omega)]; exact sb _ _ (by omega) (by omega) (by omega)
  · rw [gA2 i (by omega) (by omega), gA2 j (by omega) (by omega)]; exact sa _ _ (by omega) (by omega) (by omega)
  · rw [gB2 i (by omega), gB2 j (by omega)]; exact sb _ _ (by omega) (by omega) (by omega)
  · by_cases e1 : i < start
    · rw [gA1 i e1]
      by_cases e2 : j < stop
      · rw [gA2 j hj e2]; exact sorted_le sa hS hi (by omega) (by omega)
      · rw [gB2 j (by omega)]
        rcases hl with hl | hl | hl
        · omega
        · omega
        · exact hS.ntrans _ _ _ (hS.ntrans _ _ _ (sorted_le sb hS h3 (by omega) (by omega)) hl) (sorted_le sa hS hi (by omega) (by omega))
    · rw [gB1 i (by omega) him]
      by_cases e2 : j < stop
      · rw [gA2 j hj e2]
        rcases hr with hr | hr | hr
        · omega
        · omega
        · refine hS.ntrans _ _ _ (hS.ntrans _ _ _ (sorted_le sa hS (i := start) (j := j - (stop - m)) (by omega) (by omega) (by omega)) (swo_asym hS hr)) ?_
          exact sorted_le sb hS (by omega) (by omega) (by omega)
      · rw [gB2 j (by omega)]; exact sorted_le sb hS (by omega) (by omega) (by omega)

theorem sorted_keep {d d' : Array α} {a b : Nat} (h : SortedIn lt a b d) (he : ∀ i, a ≤ i → i < b → d'[i]! = d[i]!) : SortedIn lt a b d' := fun i j hi hij hj => by
  rw [he i hi (by omega), he j (by omega) hj]; exact h i j hi hij hj

/-- the halves are merged in their turn -/
theorem merge_halves {d d1 d2 d3 : Array α} {a m b start stop mid : Nat} (h1 : a ≤ start) (h2 : start ≤ m) (h3 : m ≤ stop) (h4 : stop ≤ b) (hm : mid + m = start + stop) (hb : b ≤ d.size)
    (hc : ∀ i j, a ≤ i → i < mid → mid ≤ j → j < b → lt d1[j]! d1[i]! = false) (h : Rotated d d1 start m stop)
    (k2 : PermIn a mid d1 d2 ∧ SortedIn lt a mid d2) (k3 : PermIn mid b d2 d3 ∧ SortedIn lt mid b d3) : PermIn a b d d3 ∧ SortedIn lt a b d3 := by
  have s1 := h.size
  have s2 := k2.1.1
  have s3 := k3.1.1
  refine ⟨permIn_trans _ _ _ _ _ (permIn_mono _ _ _ _ _ _ h1 h4 hb h.perm) (permIn_trans _ _ _ _ _ (permIn_mono _ _ _ _ _ _ (Nat.le_refl _) (by omega) (by omega) k2.1) (permIn_mono _ _ _ _ _ _ (by omega) (Nat.le_refl _) (by omega) k3.1)),
    sorted_cat (sorted_keep k2.2 (fun i hi him => k3.1.2.1 i (by omega))) k3.2 ?_⟩
  have c2 : ∀ j, mid ≤ j → j < b → ∀ i, a ≤ i → i < mid → lt d2[j]! d2[i]! = false := fun j hj hjb => by
    refine permIn_all d1 d2 a mid (fun x => lt d2[j]! x = false) (by omega) k2.1 (fun i hi him => ?_)
    have e : d2[j]! = d1[j]! := k2.1.2.1 j (by omega)
    rw [e]; exact hc i j hi him hj hjb
  intro i j hi him hj hjb
  have e : d3[i]! = d2[i]! := k3.1.2.1 i (by omega)
  rw [e]
  exact permIn_all d2 d3 mid b (fun x => lt x d2[i]! = false) (by omega) k3.1 (fun j hj hjb => c2 j hj hjb i hi him) j hj hjb
end
end Go.Proofs.YtbhildmalcfhiaaGreatDoor

namespace Go.Proofs.YtbhildmalcfhiaaGreatDoor
open Go.RowKit Go.Deep Go.Sort

section
variable {α : Type} [Inhabited α]

variable {enc : α → List Value} {k : Nat} {lt : α → α → Bool} {g : Nat} {lb : Array Value} {sf : Nat} {sb : Array Value} {blk off size : Nat} {W : World}

theorem swk_on {d dk : Array α} {W1 wr : World} (h1 : SWK enc k W blk off d W1) (hblk : blk < W.heap.size) (h : SWK enc k W1 blk off dk wr) (hs : dk.size = d.size) : SWK enc k W blk off dk wr := by
  obtain ⟨n, os, rfl⟩ := h
  exact h1.on hblk n dk os hs
theorem swk_grow {dk : Array α} {wr : World} (h : SWK enc k W blk off dk wr) (os' : Array Obj) : SWK enc k W blk off dk (grow wr os') := by
  obtain ⟨n, os, rfl⟩ := h
  exact ⟨n, os ++ os', by unfold sortWorldK; rw [grow_grow]⟩
theorem swk_below {dk : Array α} {wr : World} {os0 : Array Obj} (h : SWK enc k (grow W os0) blk off dk wr) (hblk : blk < W.heap.size) : SWK enc k W blk off dk wr := by
  obtain ⟨n, os, rfl⟩ := h
  exact ⟨n, os0 ++ os, by unfold sortWorldK; rw [ahead_grow, putRowK_grow enc k (Sort.ahead W n) _ blk off _ hblk, grow_grow]⟩
/-- 'less' in whatever world of the family: it reads, and may make memory of its own -/
def LessG (P : Program) (g : Nat) (lb : Array Value) (enc : α → List Value) (k : Nat) (lt : α → α → Bool) (blk off size : Nat) (W : World) : Prop :=
  ∀ (dk : Array α) (wr : World), SWK enc k W blk off dk wr → dk.size = size → ∀ i j : Nat, i < size → j < size →
    Calls P g (#[.int .i64 i, .int .i64 j] ++ lb) wr fun e w' => e = .returned (.bool (lt dk[i]! dk[j]!)) ∧ ∃ q os, w' = grow (wr.drewN q) os
theorem LessG.of_reads {P : Program} (h : LessReadsK P g lb enc k lt blk off size W) : LessG P g lb enc k lt blk off size W := fun _ _ hs hz i j hi hj =>
  (hs.less h hz i j hi hj).mono fun _ _ ⟨h1, q, h2⟩ => ⟨h1, q, #[], by rw [h2, grow_empty]⟩
theorem LessG.grow {P : Program} (h : LessG P g lb enc k lt blk off size W) (hblk : blk < W.heap.size) (os0 : Array Obj) : LessG P g lb enc k lt blk off size (grow W os0) := fun dk wr hs hz => h dk wr (swk_below hs hblk) hz
theorem LessG.on {P : Program} (h : LessG P g lb enc k lt blk off size W) (hblk : blk < W.heap.size) {dk : Array α} {wr : World} (hs : SWK enc k W blk off dk wr) (hz : dk.size = size) : LessG P g lb enc k lt blk off size wr := fun dk2 w2 h2 hz2 =>
  h dk2 w2 (swk_on hs hblk h2 (hz2.trans hz.symm)) hz2

/-- what a sort's helpers are called with -/
structure SEnv (enc : α → List Value) (k : Nat) (lt : α → α → Bool) (g : Nat) (lb : Array Value) (sf : Nat) (sb : Array Value) (blk off size : Nat) (W : World) : Prop where
  hk : ∀ x, (enc x).length = k
  eg : ∀ args w, (callFunc g args).run Tryz.prog w = .ok (.enter g args) w
  less : LessG Tryz.prog g lb enc k lt blk off size W
  swap : SwapSwapsK Tryz.prog sf sb enc k blk off size
  hlt : blk < W.heap.size
  sz : size < 4611686018427387904


theorem SEnv.alloc (E : SEnv enc k lt g lb sf sb blk off size W) (o : Obj) : SEnv enc k lt g lb sf sb blk off size (W.alloc o) :=
  ⟨E.hk, E.eg, by rw [alloc_eq_grow]; exact E.less.grow E.hlt _, E.swap, by have := E.hlt; rw [World.size_alloc]; omega, E.sz⟩
theorem SEnv.on (E : SEnv enc k lt g lb sf sb blk off size W) {dk : Array α} {wr : World} (h : SWK enc k W blk off dk wr) (hs : dk.size = size) : SEnv enc k lt g lb sf sb blk off size wr :=
  ⟨E.hk, E.eg, E.less.on E.hlt h hs, E.swap, h.lt E.hlt, E.sz⟩
/-- the box lies as it lay -/
theorem swk_cell {dk : Array α} {wr : World} (h : SWK enc k W blk off dk wr) (b o : Nat) (hb : b ≠ blk) (hl : b < W.heap.size) : wr.cell? ⟨b, o, none⟩ = W.cell? ⟨b, o, none⟩ := by
  obtain ⟨n, os, rfl⟩ := h
  unfold sortWorldK
  rw [cell?_grow _ _ _ (by rw [size_putRowK]; exact hl), cell?_putRowK_other enc k _ blk off dk _ hb]
  rfl
theorem swk_box {d : Array α} (hH : HoldsK enc k W blk off d) (o : Obj) : SWK enc k W blk off d (W.alloc o) := (SWK.start hH).alloc o
theorem holds_box {d : Array α} (hH : HoldsK enc k W blk off d) (hblk : blk < W.heap.size) (o : Obj) : HoldsK enc k (W.alloc o) blk off d := by
  rw [alloc_eq_grow]; exact holdsK_grow enc k W _ blk off d hblk hH

/-- two calls' worth of 'less' and 'swap' -/
abbrev dataV (g : Nat) (lb : Array Value) (sf : Nat) (sb : Array Value) : Value := .agg #[.func (.func g) #[] lb, .func (.func sf) #[] sb]
abbrev dataB (g : Nat) (lb : Array Value) (sf : Nat) (sb : Array Value) : Obj := .cells #[.func (.func g) #[] lb, .func (.func sf) #[] sb] 118

def SwapPost (enc : α → List Value) (k blk off a b n : Nat) (d : Array α) (W : World) (e : Ending) (w' : World) : Prop := e = .returned (.tuple #[]) ∧ ∃ d', Swapped d d' a b n ∧ SWK enc k W blk off d' w'

set_option maxHeartbeats 2000000 in
set_option maxRecDepth 100000 in
theorem swapRange_w (a b n : Nat) (d : Array α) (E : SEnv enc k lt g lb sf sb blk off d.size W) (hH : HoldsK enc k W blk off d) (hab : a + n ≤ b) (hb : b + n ≤ d.size) :
    Calls Tryz.prog 172 #[dataV g lb sf sb, .int .i64 a, .int .i64 b, .int .i64 n] W (SwapPost enc k blk off a b n d W) := by
  have hsz := E.sz
  have hblk := E.hlt
  have hk := E.hk
  have hswap := E.swap
  have HE1 := Lib.hid (E.alloc (dataB g lb sf sb))
  have HH1 := Lib.hid (holds_box hH hblk (dataB g lb sf sb))
  have HS1 := Lib.hid (swk_box hH (dataB g lb sf sb))
  have HB := Lib.hid hblk
  have HSw := Lib.hid hswap
  have HK := Lib.hid hk
  clear hH E hswap hk
  go_enter Tryz.func172, Tryz.ntmps172
  go_wp2_with fail
  go_loopw [8] (fun v8 wr => ∃ (i : Nat) (dk : Array α), v8 = .int .i64 i ∧ i ≤ n ∧ Hid (Swapped d dk a b i) ∧ Hid (SWK enc k (W.alloc (dataB g lb sf sb)) blk off dk wr)) (fun v8 _ => n - (intOf v8).toNat)
  case atStart => exact ⟨0, d, rfl, Nat.zero_le _, Swapped.start _ _ _, SWK.start HH1.out⟩
  case round =>
    obtain ⟨i, dk, rfl, hi, hsw, hK⟩ := hrel
    by_cases hlt : i < n
    · have hds : dk.size = d.size := hsw.out.size
      have c1 : wr.cell? ⟨W.heap.size, 1, none⟩ = some (.func (.func sf) #[] sb) := by
        rw [swk_cell hK.out _ _ (by omega) (by rw [World.size_alloc]; omega)]; simp
      have hs := HSw.out wr dk (hK.out.holds HE1.out.hlt HH1.out hds) hds (a + i) (b + i) (by omega) (by omega)
      rw [show (((a + i : Nat)) : Int) = (a : Int) + (i : Int) by omega, show (((b + i : Nat)) : Int) = (b : Int) + (i : Int) by omega] at hs
      have hK2 := Lib.hid (hK.out.swap HK.out HE1.out.hlt (a + i) (b + i) (by omega) (by omega))
      have hsw2 := Lib.hid (hsw.out.step (by omega) (by omega))
      go_wp2_with fail
      go_roundw
      case rel => exact ⟨i + 1, _, by go_num, by omega, hsw2, hK2⟩
      case measure => simp [intOf]; omega
    · have hin : i = n := by omega
      subst hin
      go_wp2_with fail
      go_end0
      exact ⟨rfl, dk, hsw.out, swk_on HS1.out HB.out hK.out hsw.out.size⟩

def RotPost (enc : α → List Value) (k blk off a m b : Nat) (d : Array α) (W : World) (e : Ending) (w' : World) : Prop := e = .returned (.tuple #[]) ∧ ∃ d', Rotated d d' a m b ∧ SWK enc k W blk off d' w'

set_option maxHeartbeats 2000000 in
set_option maxRecDepth 100000 in
theorem rotate_w (a m b : Nat) (d : Array α) (E : SEnv enc k lt g lb sf sb blk off d.size W) (hH : HoldsK enc k W blk off d) (ham : a < m) (hmb : m < b) (hb : b ≤ d.size) :
    Calls Tryz.prog 146 #[dataV g lb sf sb, .int .i64 a, .int .i64 m, .int .i64 b] W (RotPost enc k blk off a m b d W) := by
  have hsz := E.sz
  have hblk := E.hlt
  have HE1 := Lib.hid (E.alloc (dataB g lb sf sb))
  have HH1 := Lib.hid (holds_box hH hblk (dataB g lb sf sb))
  have HS1 := Lib.hid (swk_box hH (dataB g lb sf sb))
  have HB := Lib.hid hblk
  clear hH E
  go_enter Tryz.func146, Tryz.ntmps146
  go_wp2_with fail
  go_loopw [8, 9] (fun v8 v9 wr => ∃ (i j : Nat) (dk : Array α), v8 = .int .i64 i ∧ v9 = .int .i64 j ∧ 0 < i ∧ 0 < j ∧ i ≤ m ∧ m + j ≤ d.size ∧ dk.size = d.size ∧ Hid (∀ d', Rotated dk d' (m - i) m (m + j) → Rotated d d' a m b) ∧ Hid (SWK enc k (W.alloc (dataB g lb sf sb)) blk off dk wr)) (fun v8 v9 _ => (intOf v8).toNat + (intOf v9).toNat)
  case atStart => exact ⟨m - a, b - m, d, by congr 1; omega, by congr 1; omega, by omega, by omega, by omega, by omega, rfl, fun d' h => by rw [show m - (m - a) = a by omega, show m + (b - m) = b by omega] at h; exact h, SWK.start HH1.out⟩
  case round =>
    obtain ⟨i, j, dk, rfl, rfl, hi, hj, him, hmj, hds, hR, hK⟩ := hrel
    have c0 : wr.cell? ⟨W.heap.size, 0, none⟩ = some (.func (.func g) #[] lb) := by
      rw [swk_cell hK.out _ _ (by omega) (by rw [World.size_alloc]; omega)]; simp
    have c1 : wr.cell? ⟨W.heap.size, 1, none⟩ = some (.func (.func sf) #[] sb) := by
      rw [swk_cell hK.out _ _ (by omega) (by rw [World.size_alloc]; omega)]; simp
    have hE2 := HE1.out.on hK.out hds
    rw [← hds] at hE2
    have HE2 := Lib.hid hE2; clear hE2
    have HH2 := Lib.hid (hK.out.holds HE1.out.hlt HH1.out hds)
    by_cases hij : i = j
    · subst hij
      have t1 : ((i : Int) != (i : Int)) = false := by simp
      have hc := swapRange_w (m - i) m i dk HE2.out HH2.out (by omega) (by omega)
      rw [show ((m - i : Nat) : Int) = (m : Int) - (i : Int) by omega] at hc
      have HC := Lib.hid hc; clear hc
      go_wp2_with (go_at_call 172; go_must (refine HC.out.mono ?_); rintro e w2 ⟨rfl, d1, hd1, hk1⟩; have HD := Lib.hid hd1; have HK1 := Lib.hid hk1; clear hd1 hk1)
      go_end0
      have hrot := hR.out d1 (rot_equal HD.out him (by omega))
      exact ⟨rfl, d1, hrot, swk_on HS1.out HB.out (swk_on hK.out HE1.out.hlt HK1.out (by rw [HD.out.size])) (by rw [hrot.size])⟩
    · by_cases hlt : j < i
      · have t1 : ((i : Int) != (j : Int)) = true := by simp; omega
        have hc := swapRange_w (m - i) m j dk HE2.out HH2.out (by omega) (by omega)
        rw [show ((m - i : Nat) : Int) = (m : Int) - (i : Int) by omega] at hc
        have HC := Lib.hid hc; clear hc
        go_wp2_with (go_at_call 172; go_must (refine HC.out.mono ?_); rintro e w2 ⟨rfl, d1, hd1, hk1⟩; have HD := Lib.hid hd1; have HK1 := Lib.hid hk1; clear hd1 hk1)
        go_roundw
        case rel => exact ⟨i - j, j, d1, by congr 1; omega, rfl, by omega, hj, by omega, hmj, by rw [HD.out.size]; exact hds, fun d' h => hR.out d' (rot_left hlt him (by omega) HD.out h), swk_on hK.out HE1.out.hlt HK1.out (by rw [HD.out.size])⟩
        case measure => simp [intOf]; omega
      · have t1 : ((i : Int) != (j : Int)) = true := by simp; omega
        have hc := swapRange_w (m - i) (m + j - i) i dk HE2.out HH2.out (by omega) (by omega)
        rw [show ((m - i : Nat) : Int) = (m : Int) - (i : Int) by omega, show ((m + j - i : Nat) : Int) = (m : Int) + (j : Int) - (i : Int) by omega] at hc
        have HC := Lib.hid hc; clear hc
        go_wp2_with (go_at_call 172; go_must (refine HC.out.mono ?_); rintro e w2 ⟨rfl, d1, hd1, hk1⟩; have HD := Lib.hid hd1; have HK1 := Lib.hid hk1; clear hd1 hk1)
        go_roundw
        case rel => exact ⟨i, j - i, d1, rfl, by congr 1; omega, hi, by omega, him, by omega, by rw [HD.out.size]; exact hds, fun d' h => hR.out d' (rot_right (by omega) him (by omega) HD.out h), swk_on hK.out HE1.out.hlt HK1.out (by rw [HD.out.size])⟩
        case measure => simp [intOf]; omega
end
end Go.Proofs.YtbhildmalcfhiaaGreatDoor

namespace Go.Proofs.YtbhildmalcfhiaaGreatDoor
open Go.RowKit Go.Deep Go.Sort

section
variable {α : Type} [Inhabited α]
variable {enc : α → List Value} {k : Nat} {lt : α → α → Bool} {g : Nat} {lb : Array Value} {sf : Nat} {sb : Array Value} {blk off : Nat} {W : World}

def SymPost (enc : α → List Value) (k blk off : Nat) (lt : α → α → Bool) (a b : Nat) (d : Array α) (W : World) (e : Ending) (w' : World) : Prop := e = .returned (.tuple #[]) ∧ ∃ d', (PermIn a b d d' ∧ SortedIn lt a b d') ∧ SWK enc k W blk off d' w'

theorem less_at {d : Array α} {W0 wr : World} (E : SEnv enc k lt g lb sf sb blk off d.size W0) (h : SWK enc k W0 blk off d wr) (i j : Nat) (hi : i < d.size) (hj : j < d.size) (r : Bool) (hr : lt d[i]! d[j]! = r) :
    Calls Tryz.prog g (#[.int .i64 i, .int .i64 j] ++ lb) wr fun e w' => e = .returned (.bool r) ∧ SWK enc k W0 blk off d w' := by
  subst hr; exact (E.less d wr h rfl i j hi hj).mono fun e w' ⟨h1, q, os, h2⟩ => ⟨h1, by rw [h2]; exact swk_grow (h.drewN q) os⟩
theorem half_int {i j h : Nat} (hh : h = (i + j) / 2) : ((i : Int) + (j : Int)) / 2 = (h : Int) := by omega
theorem dec_false {p : Prop} [Decidable p] (h : ¬ p) : decide p = false := decide_eq_false h


set_option maxHeartbeats 4000000 in
set_option maxRecDepth 100000 in
/-- one element on the left -/
theorem symFirst_w (hO : SWO lt) (a m b : Nat) (hm : m = a + 1) (d : Array α) (E : SEnv enc k lt g lb sf sb blk off d.size W) (hH : HoldsK enc k W blk off d) (hmb : a + 1 < b) (hb : b ≤ d.size) (hs2 : SortedIn lt (a + 1) b d) :
    Calls Tryz.prog 109 #[dataV g lb sf sb, .int .i64 a, .int .i64 m, .int .i64 b] W (SymPost enc k blk off lt a b d W) := by
  have hsz := E.sz
  have hblk := E.hlt
  have eg := E.eg
  have HE1 := Lib.hid (E.alloc (dataB g lb sf sb))
  have HH1 := Lib.hid (holds_box hH hblk (dataB g lb sf sb))
  have HS1 := Lib.hid (swk_box hH (dataB g lb sf sb))
  have HB := Lib.hid hblk
  have cc : ∀ (dk : Array α) (wx : World), SWK enc k (W.alloc (dataB g lb sf sb)) blk off dk wx → wx.cell? ⟨W.heap.size, 0, none⟩ = some (.func (.func g) #[] lb) ∧ wx.cell? ⟨W.heap.size, 1, none⟩ = some (.func (.func sf) #[] sb) := fun dk wx h2 => by
    have := HB.out
    rw [swk_cell h2 _ _ (by omega) (by rw [World.size_alloc]; omega), swk_cell h2 _ _ (by omega) (by rw [World.size_alloc]; omega)]; simp
  have HCc := Lib.hid cc; clear cc
  have HS2 := Lib.hid hs2
  have HO := Lib.hid hO
  have t1 : (((m : Int) - (a : Int)) == 1) = true := by simp; omega
  have HM := Lib.hid hm
  have hx1 : a < m := by omega
  have hx2 : m < b := by omega
  clear hs2 hO hm
  clear hH E
  go_enter Tryz.func109, Tryz.ntmps109
  go_wp2_with fail
  go_loopw [8, 9] (fun v8 v9 wr => ∃ (i j : Nat), v8 = .int .i64 i ∧ v9 = .int .i64 j ∧ a + 1 ≤ i ∧ i ≤ j ∧ j ≤ b ∧ Hid (i = a + 1 ∨ lt d[i - 1]! d[a]! = true) ∧ Hid (j = b ∨ lt d[j]! d[a]! = false) ∧ Hid (SWK enc k (W.alloc (dataB g lb sf sb)) blk off d wr)) (fun v8 v9 _ => (intOf v9).toNat - (intOf v8).toNat)
  case atStart => exact ⟨m, b, rfl, rfl, by have := HM.out; omega, by have := HM.out; omega, Nat.le_refl _, Or.inl HM.out, Or.inl rfl, SWK.start HH1.out⟩
  case round =>
    obtain ⟨i, j, rfl, rfl, hi, hij, hjb, hL, hR, hK⟩ := hrel
    obtain ⟨c0, c1⟩ := HCc.out d wr hK.out
    by_cases hlt : i < j
    · obtain ⟨h, hh⟩ : ∃ h : Nat, h = (i + j) / 2 := ⟨_, rfl⟩
      have hh1 := half_int hh
      have hh2 : i ≤ h := by omega
      have hh3 : h < j := by omega
      clear hh
      cases hr : lt d[h]! d[a]! with
      | true =>
        have hl := Lib.hid (less_at HE1.out hK.out h a (by omega) (by omega) true hr)
        have HR1 := Lib.hid hr; clear hr
        go_wp2_with (go_at_fn g; refine (hl.out).mono ?_; rintro e w' ⟨rfl, hk9⟩; have HK9 := Lib.hid hk9; clear hk9)
        go_roundw
        case rel => exact ⟨h + 1, j, by go_num, rfl, by omega, by omega, hjb, Or.inr (by rw [Nat.add_sub_cancel]; exact HR1.out), hR, HK9⟩
        case measure => simp [intOf]; omega
      | false =>
        have hl := Lib.hid (less_at HE1.out hK.out h a (by omega) (by omega) false hr)
        have HR1 := Lib.hid hr; clear hr
        go_wp2_with (go_at_fn g; refine (hl.out).mono ?_; rintro e w' ⟨rfl, hk9⟩; have HK9 := Lib.hid hk9; clear hk9)
        go_roundw
        case rel => exact ⟨i, h, rfl, rfl, hi, hh2, by omega, hL, Or.inr HR1.out, HK9⟩
        case measure => simp [intOf]; omega
    · have hij2 : i = j := by omega
      subst hij2
      clear hij hlt
      go_wp2_with fail
      go_loopw [11] (fun v11 wr2 => ∃ (kk : Nat) (dk : Array α), v11 = .int .i64 kk ∧ a ≤ kk ∧ kk + 1 ≤ i ∧ Hid (Rotated d dk a (a + 1) (kk + 1)) ∧ Hid (SWK enc k (W.alloc (dataB g lb sf sb)) blk off dk wr2)) (fun v11 _ => i - (intOf v11).toNat)
      case atStart => exact ⟨a, d, rfl, Nat.le_refl _, by omega, Rotated.same_r d a (a + 1), hK.out⟩
      case round =>
        obtain ⟨kk, dk, rfl, hka, hki, hrot, hK2⟩ := hrel
        obtain ⟨c2, c3⟩ := HCc.out dk _ hK2.out
        have hds : dk.size = d.size := hrot.out.size
        by_cases hlt2 : kk + 1 < i
        · have hs := HE1.out.swap _ dk (hK2.out.holds HE1.out.hlt HH1.out hds) hds kk (kk + 1) (by omega) (by omega)
          rw [show ((kk + 1 : Nat) : Int) = (kk : Int) + 1 by omega] at hs
          have hK3 := Lib.hid (hK2.out.swap HE1.out.hk HE1.out.hlt kk (kk + 1) (by omega) (by omega))
          have hrot3 := Lib.hid (rot_up hka (by omega) hrot.out)
          go_wp2_with fail
          go_roundw
          case rel => exact ⟨kk + 1, _, by go_num, by omega, by omega, hrot3, hK3⟩
          case measure => simp [intOf]; omega
        · have hke : kk + 1 = i := by omega
          rw [hke] at hrot
          go_wp2_with fail
          go_end0
          exact ⟨rfl, dk, merge_first HO.out hi hjb hb HS2.out hL.out hR.out hrot.out, swk_on HS1.out HB.out hK2.out hds⟩


set_option maxHeartbeats 4000000 in
set_option maxRecDepth 100000 in
/-- one element on the right -/
theorem symLast_w (hO : SWO lt) (a m b : Nat) (hm : b = m + 1) (d : Array α) (E : SEnv enc k lt g lb sf sb blk off d.size W) (hH : HoldsK enc k W blk off d) (ham : a + 1 < m) (hb : m + 1 ≤ d.size) (hs2 : SortedIn lt a m d) :
    Calls Tryz.prog 109 #[dataV g lb sf sb, .int .i64 a, .int .i64 m, .int .i64 b] W (SymPost enc k blk off lt a b d W) := by
  have hsz := E.sz
  have hblk := E.hlt
  have eg := E.eg
  have HE1 := Lib.hid (E.alloc (dataB g lb sf sb))
  have HH1 := Lib.hid (holds_box hH hblk (dataB g lb sf sb))
  have HS1 := Lib.hid (swk_box hH (dataB g lb sf sb))
  have HB := Lib.hid hblk
  have cc : ∀ (dk : Array α) (wx : World), SWK enc k (W.alloc (dataB g lb sf sb)) blk off dk wx → wx.cell? ⟨W.heap.size, 0, none⟩ = some (.func (.func g) #[] lb) ∧ wx.cell? ⟨W.heap.size, 1, none⟩ = some (.func (.func sf) #[] sb) := fun dk wx h2 => by
    have := HB.out
    rw [swk_cell h2 _ _ (by omega) (by rw [World.size_alloc]; omega), swk_cell h2 _ _ (by omega) (by rw [World.size_alloc]; omega)]; simp
  have HCc := Lib.hid cc; clear cc
  have HS2 := Lib.hid hs2
  have HO := Lib.hid hO
  have t1 : (((m : Int) - (a : Int)) == 1) = false := by simp; omega
  have t2 : (((b : Int) - (m : Int)) == 1) = true := by simp; omega
  have HM := Lib.hid hm
  have hx1 : a < m := by omega
  have hx2 : m < b := by omega
  have hx3 : b ≤ d.size := by omega
  clear hs2 hO hm
  clear hH E
  go_enter Tryz.func109, Tryz.ntmps109
  go_wp2_with fail
  go_loopw [12, 13] (fun v8 v9 wr => ∃ (i j : Nat), v8 = .int .i64 i ∧ v9 = .int .i64 j ∧ a ≤ i ∧ i ≤ j ∧ j ≤ m ∧ Hid (i = a ∨ lt d[m]! d[i - 1]! = false) ∧ Hid (j = m ∨ lt d[m]! d[j]! = true) ∧ Hid (SWK enc k (W.alloc (dataB g lb sf sb)) blk off d wr)) (fun v8 v9 _ => (intOf v9).toNat - (intOf v8).toNat)
  case atStart => exact ⟨a, m, rfl, rfl, Nat.le_refl _, by omega, Nat.le_refl _, Or.inl rfl, Or.inl rfl, SWK.start HH1.out⟩
  case round =>
    obtain ⟨i, j, rfl, rfl, hi, hij, hjb, hL, hR, hK⟩ := hrel
    obtain ⟨c0, c1⟩ := HCc.out d wr hK.out
    by_cases hlt : i < j
    · obtain ⟨h, hh⟩ : ∃ h : Nat, h = (i + j) / 2 := ⟨_, rfl⟩
      have hh1 := half_int hh
      have hh2 : i ≤ h := by omega
      have hh3 : h < j := by omega
      clear hh
      cases hr : lt d[m]! d[h]! with
      | true =>
        have hl := Lib.hid (less_at HE1.out hK.out m h (by omega) (by omega) true hr)
        have HR1 := Lib.hid hr; clear hr
        go_wp2_with (go_at_fn g; refine (hl.out).mono ?_; rintro e w' ⟨rfl, hk9⟩; have HK9 := Lib.hid hk9; clear hk9)
        go_roundw
        case rel => exact ⟨i, h, rfl, rfl, hi, hh2, by omega, hL, Or.inr HR1.out, HK9⟩
        case measure => simp [intOf]; omega
      | false =>
        have hl := Lib.hid (less_at HE1.out hK.out m h (by omega) (by omega) false hr)
        have HR1 := Lib.hid hr; clear hr
        go_wp2_with (go_at_fn g; refine (hl.out).mono ?_; rintro e w' ⟨rfl, hk9⟩; have HK9 := Lib.hid hk9; clear hk9)
        go_roundw
        case rel => exact ⟨h + 1, j, by go_num, rfl, by omega, by omega, hjb, Or.inr (by rw [Nat.add_sub_cancel]; exact HR1.out), hR, HK9⟩
        case measure => simp [intOf]; omega
    · have hij2 : i = j := by omega
      subst hij2
      clear hij hlt
      go_wp2_with fail
      go_loopw [15] (fun v11 wr2 => ∃ (kk : Nat) (dk : Array α), v11 = .int .i64 kk ∧ i ≤ kk ∧ kk ≤ m ∧ Hid (Rotated d dk kk m (m + 1)) ∧ Hid (SWK enc k (W.alloc (dataB g lb sf sb)) blk off dk wr2)) (fun v11 _ => (intOf v11).toNat)
      case atStart => exact ⟨m, d, rfl, hjb, Nat.le_refl _, Rotated.same_l d m (m + 1), hK.out⟩
      case round =>
        obtain ⟨kk, dk, rfl, hka, hki, hrot, hK2⟩ := hrel
        obtain ⟨c2, c3⟩ := HCc.out dk _ hK2.out
        have hds : dk.size = d.size := hrot.out.size
        by_cases hlt2 : i < kk
        · have hs := HE1.out.swap _ dk (hK2.out.holds HE1.out.hlt HH1.out hds) hds kk (kk - 1) (by omega) (by omega)
          rw [show ((kk - 1 : Nat) : Int) = (kk : Int) - 1 by omega] at hs
          have hK3 := Lib.hid (hK2.out.swap HE1.out.hk HE1.out.hlt kk (kk - 1) (by omega) (by omega))
          have hrot3 := Lib.hid (rot_down hki (by omega) (by omega) hrot.out)
          go_wp2_with fail
          go_roundw
          case rel => exact ⟨kk - 1, _, by congr 1; omega, by omega, by omega, hrot3, hK3⟩
          case measure => simp [intOf]; omega
        · have hke : kk = i := by omega
          subst hke
          go_wp2_with fail
          go_end0
          exact ⟨rfl, dk, by rw [HM.out]; exact merge_last HO.out hi hjb hb HS2.out hL.out hR.out hrot.out, swk_on HS1.out HB.out hK2.out hds⟩

/-- a rotation that may be none -/
def RotOr (enc : α → List Value) (k blk off a m b : Nat) (d : Array α) (W0 : World) (w' : World) : Prop := ∃ d', Rotated d d' a m b ∧ SWK enc k W0 blk off d' w'
theorem sorted_cut {lt : α → α → Bool} {d : Array α} {a b c e : Nat} (h : SortedIn lt a b d) (h1 : a ≤ c) (h2 : e ≤ b) : SortedIn lt c e d := fun i j hi hij hj => h i j (by omega) hij (by omega)
theorem sorted_none {lt : α → α → Bool} (d : Array α) {a b : Nat} (h : b ≤ a) : SortedIn lt a b d := fun i j hi hij hj => by omega

set_option maxHeartbeats 8000000 in
set_option maxRecDepth 100000 in
theorem symMerge_w (hO : SWO lt) (N : Nat) : ∀ (a m b : Nat) (d : Array α) (W : World), b - a ≤ N → SEnv enc k lt g lb sf sb blk off d.size W → HoldsK enc k W blk off d → a < m → m < b → b ≤ d.size → SortedIn lt a m d → SortedIn lt m b d →
    Calls Tryz.prog 109 #[dataV g lb sf sb, .int .i64 a, .int .i64 m, .int .i64 b] W (SymPost enc k blk off lt a b d W) := by
  induction N with
  | zero => intro a m b d W hN; intros; omega
  | succ N ih =>
    intro a m b d W hN E hH ham hmb hb sa sb2
    by_cases h1 : m = a + 1
    · exact symFirst_w hO a m b h1 d E hH (by omega) hb (by rw [← h1]; exact sb2)
    by_cases h2 : b = m + 1
    · exact symLast_w hO a m b h2 d E hH (by omega) (by omega) sa
    have hsz := E.sz
    have hblk := E.hlt
    have eg := E.eg
    have HE1 := Lib.hid (E.alloc (dataB g lb sf sb))
    have HH1 := Lib.hid (holds_box hH hblk (dataB g lb sf sb))
    have HS1 := Lib.hid (swk_box hH (dataB g lb sf sb))
    have HB := Lib.hid hblk
    have cc : ∀ (dk : Array α) (wx : World), SWK enc k (W.alloc (dataB g lb sf sb)) blk off dk wx → wx.cell? ⟨W.heap.size, 0, none⟩ = some (.func (.func g) #[] lb) ∧ wx.cell? ⟨W.heap.size, 1, none⟩ = some (.func (.func sf) #[] sb) := fun dk wx h2 => by
      have := HB.out
      rw [swk_cell h2 _ _ (by omega) (by rw [World.size_alloc]; omega), swk_cell h2 _ _ (by omega) (by rw [World.size_alloc]; omega)]; simp
    have HCc := Lib.hid cc; clear cc
    have HO := Lib.hid hO
    have HSa := Lib.hid sa
    have HSb := Lib.hid sb2
    have HI := Lib.hid ih; clear ih
    have t1 : (((m : Int) - (a : Int)) == 1) = false := by simp; omega
    have t2 : (((b : Int) - (m : Int)) == 1) = false := by simp; omega
    obtain ⟨mid, hmid⟩ : ∃ mid : Nat, mid = (a + b) / 2 := ⟨_, rfl⟩
    have hh1 := half_int hmid
    have hm1 : a < mid := by omega
    have hm2 : mid < b := by omega
    have hm3 : 2 * mid ≤ a + b := by omega
    have hm4 : a + b ≤ 2 * mid + 1 := by omega
    obtain ⟨s0, r0, hsr, hs1, hs2, hs3⟩ : ∃ s0 r0 : Nat, s0 ≤ r0 ∧ ((mid < m ∧ s0 = mid + m - b ∧ r0 = mid) ∨ (m ≤ mid ∧ s0 = a ∧ r0 = m)) ∧ a ≤ s0 ∧ r0 ≤ m := by
      by_cases h : mid < m
      · exact ⟨mid + m - b, mid, by omega, Or.inl ⟨h, rfl, rfl⟩, by omega, by omega⟩
      · exact ⟨a, m, by omega, Or.inr ⟨by omega, rfl, rfl⟩, by omega, by omega⟩
    have hend : ∀ s, s0 ≤ s → s ≤ r0 → m ≤ mid + m - s ∧ mid + m - s ≤ b := fun s h5 h6 => by omega
    have HEnd := Lib.hid hend; clear hend
    have HO2 := Lib.hid hO
    clear sa sb2 hO hmid hm3 hm4
    clear hH E
    have key : ∀ (d1 : Array α) (start : Nat) (wr : World), s0 ≤ start → start ≤ r0 → Hid (Rotated d d1 start m (mid + m - start)) → Hid (start = s0 ∨ lt d[mid + m - 1 - (start - 1)]! d[start - 1]! = false) → Hid (start = r0 ∨ lt d[mid + m - 1 - start]! d[start]! = true) →
        SortedIn lt a start d1 ∧ SortedIn lt start mid d1 ∧ SortedIn lt mid (mid + m - start) d1 ∧ SortedIn lt (mid + m - start) b d1 ∧ ∀ i j, a ≤ i → i < mid → mid ≤ j → j < b → lt d1[j]! d1[i]! = false := fun d1 start wr h5 h6 hrot hL hR => by
      obtain ⟨e1, e2⟩ := HEnd.out start h5 h6
      refine merge_mid HO.out (by omega) (by omega) e1 e2 (by omega) HSa.out HSb.out ?_ ?_ hrot.out
      · rcases hL.out with hL | hL
        · rcases hs1 with h7 | h7
          · right; left; omega
          · left; omega
        · by_cases h8 : start = 0
          · left; omega
          · right; right; rw [show mid + m - start = mid + m - 1 - (start - 1) by omega]; exact hL
      · rcases hR.out with hR | hR
        · rcases hs1 with h7 | h7
          · right; left; omega
          · left; omega
        · right; right; rw [show mid + m - start - 1 = mid + m - 1 - start by omega]; exact hR
    have HKey := Lib.hid key; clear key
    rcases hs1 with ⟨h5, h6, h7⟩ | ⟨h5, h6, h7⟩
    · have hx1 : ((mid : Int) + (m : Int)) - (b : Int) = (s0 : Int) := by omega
      have hb1 : b ≤ mid + m ∨ m ≤ mid := by omega
      have hq : mid < m := h5
      have HX := Lib.hid (show s0 = mid + m - b ∧ r0 = mid from ⟨h6, h7⟩); clear h6 h7
      have hsb : s0 ≤ d.size := by omega
      have hrb : r0 ≤ d.size := by omega
      go_enter Tryz.func109, Tryz.ntmps109
      go_wp2_with fail
      go_loopw [18, 19] (fun v18 v19 wr => ∃ (i j : Nat), v18 = .int .i64 i ∧ v19 = .int .i64 j ∧ s0 ≤ i ∧ i ≤ j ∧ j ≤ r0 ∧ Hid (i = s0 ∨ lt d[mid + m - 1 - (i - 1)]! d[i - 1]! = false) ∧ Hid (j = r0 ∨ lt d[mid + m - 1 - j]! d[j]! = true) ∧ Hid (SWK enc k (W.alloc (dataB g lb sf sb)) blk off d wr)) (fun v18 v19 _ => (intOf v19).toNat - (intOf v18).toNat)
      case atStart => exact ⟨s0, r0, by first | rfl | (congr 1; have := HX.out; omega), by first | rfl | (congr 1; have := HX.out; omega), Nat.le_refl _, hsr, Nat.le_refl _, Or.inl rfl, Or.inl rfl, SWK.start HH1.out⟩
      case round =>
        obtain ⟨i, j, rfl, rfl, hi, hij, hjr, hL, hR, hK⟩ := hrel
        obtain ⟨c0, c1⟩ := HCc.out d wr hK.out
        by_cases hlt : i < j
        · obtain ⟨h, hh⟩ : ∃ h : Nat, h = (i + j) / 2 := ⟨_, rfl⟩
          have hhx := half_int hh
          have hh2 : i ≤ h := by omega
          have hh3 : h < j := by omega
          clear hh
          obtain ⟨x, hx⟩ : ∃ x : Nat, x = mid + m - 1 - h := ⟨_, rfl⟩
          have hxx : (((mid : Int) + (m : Int)) - 1) - (h : Int) = (x : Int) := by omega
          have hxb : x < d.size := by have := HX.out; omega
          have hhb : h < d.size := by omega
          cases hr : lt d[x]! d[h]! with
          | true =>
            have hl := Lib.hid (less_at HE1.out hK.out x h hxb hhb true hr)
            rw [hx] at hr
            have HR1 := Lib.hid hr; clear hr hx
            go_wp2_with (go_at_fn g; refine (hl.out).mono ?_; rintro e w' ⟨rfl, hk9⟩; have HK9 := Lib.hid hk9; clear hk9)
            go_roundw
            case rel => exact ⟨i, h, rfl, rfl, hi, hh2, by omega, hL, Or.inr HR1.out, HK9⟩
            case measure => simp [intOf]; omega
          | false =>
            have hl := Lib.hid (less_at HE1.out hK.out x h hxb hhb false hr)
            rw [hx] at hr
            have HR1 := Lib.hid hr; clear hr hx
            go_wp2_with (go_at_fn g; refine (hl.out).mono ?_; rintro e w' ⟨rfl, hk9⟩; have HK9 := Lib.hid hk9; clear hk9)
            go_roundw
            case rel => exact ⟨h + 1, j, by go_num, rfl, by omega, by omega, hjr, Or.inr (by rw [Nat.add_sub_cancel]; exact HR1.out), hR, HK9⟩
            case measure => simp [intOf]; omega
        · have hij2 : i = j := by omega
          subst hij2
          clear hij hlt
          have hir : i ≤ r0 := hjr
          obtain ⟨stop, hst⟩ : ∃ stop : Nat, mid + m - i = stop := ⟨_, rfl⟩
          obtain ⟨he1, he2⟩ := HEnd.out i hi hir
          rw [hst] at he1 he2
          have hsx : ((mid : Int) + (m : Int)) - (i : Int) = (stop : Int) := by omega
          have hai : a ≤ i := by omega
          have him : i ≤ mid := by have := HX.out; omega
          have him2 : i ≤ m := by omega
          by_cases pA : i < m
          · have pA2 : mid < stop := by omega
            by_cases pB : i < mid
            · have pB2 : m < stop := by omega
              by_cases pC : a < i
              · by_cases pD : stop < b
                · go_wp2_with fail
                  go_must (refine (rotate_w i m stop d (HE1.out.on hK.out rfl) (hK.out.holds HE1.out.hlt HH1.out rfl) pA pB2 (by omega)).mono ?_)
                  rintro e w2 ⟨rfl, d1, hrot, hk1⟩
                  have HRot := Lib.hid hrot; clear hrot
                  have HKd := Lib.hid (swk_on hK.out HE1.out.hlt hk1 HRot.out.size); clear hk1
                  have HF := Lib.hid (HKey.out d1 i wr hi hir (by rw [hst]; exact HRot.out) hL hR)
                  rw [hst] at HF
                  have hz1 : d1.size = d.size := HRot.out.size
                  obtain ⟨cw20, cw21⟩ := HCc.out _ w2 HKd.out
                  go_wp2_with fail
                  go_must (refine (HI.out a i mid d1 _ (by omega) (by rw [hz1]; exact HE1.out.on HKd.out hz1) (HKd.out.holds HE1.out.hlt HH1.out hz1) pC pB (by omega) HF.out.1 HF.out.2.1).mono ?_)
                  rintro e w3 ⟨rfl, d2, hs2, hk2⟩
                  have HM2 := Lib.hid hs2; clear hs2
                  have hz2 : d2.size = d.size := HM2.out.1.1.trans hz1
                  have HK2 := Lib.hid (swk_on HKd.out HE1.out.hlt hk2 HM2.out.1.1); clear hk2
                  obtain ⟨cw30, cw31⟩ := HCc.out _ w3 HK2.out
                  go_wp2_with fail
                  have HSt := Lib.hid (show SortedIn lt mid stop d2 ∧ SortedIn lt stop b d2 from ⟨sorted_keep HF.out.2.2.1 (fun j h8 h9 => HM2.out.1.2.1 j (by omega)), sorted_keep HF.out.2.2.2.1 (fun j h8 h9 => HM2.out.1.2.1 j (by omega))⟩)
                  go_must (refine (HI.out mid stop b d2 _ (by omega) (by rw [hz2]; exact HE1.out.on HK2.out hz2) (HK2.out.holds HE1.out.hlt HH1.out hz2) pA2 pD (by omega) HSt.out.1 HSt.out.2).mono ?_)
                  rintro e w4 ⟨rfl, d3, hs3, hk3⟩
                  have HM3 := Lib.hid hs3; clear hs3
                  have HK3 := Lib.hid (swk_on HK2.out HE1.out.hlt hk3 HM3.out.1.1); clear hk3
                  have hz3 : d3.size = d.size := HM3.out.1.1.trans hz2
                  go_wp2_with fail
                  go_end0
                  exact ⟨rfl, d3, merge_halves (by omega) (by omega) (by omega) (by omega) (by omega) hb HF.out.2.2.2.2 HRot.out HM2.out HM3.out, swk_on HS1.out HB.out HK3.out hz3⟩
                · go_wp2_with fail
                  go_must (refine (rotate_w i m stop d (HE1.out.on hK.out rfl) (hK.out.holds HE1.out.hlt HH1.out rfl) pA pB2 (by omega)).mono ?_)
                  rintro e w2 ⟨rfl, d1, hrot, hk1⟩
                  have HRot := Lib.hid hrot; clear hrot
                  have HKd := Lib.hid (swk_on hK.out HE1.out.hlt hk1 HRot.out.size); clear hk1
                  have HF := Lib.hid (HKey.out d1 i wr hi hir (by rw [hst]; exact HRot.out) hL hR)
                  rw [hst] at HF
                  have hz1 : d1.size = d.size := HRot.out.size
                  obtain ⟨cw20, cw21⟩ := HCc.out _ w2 HKd.out
                  go_wp2_with fail
                  go_must (refine (HI.out a i mid d1 _ (by omega) (by rw [hz1]; exact HE1.out.on HKd.out hz1) (HKd.out.holds HE1.out.hlt HH1.out hz1) pC pB (by omega) HF.out.1 HF.out.2.1).mono ?_)
                  rintro e w3 ⟨rfl, d2, hs2, hk2⟩
                  have HM2 := Lib.hid hs2; clear hs2
                  have hz2 : d2.size = d.size := HM2.out.1.1.trans hz1
                  have HK2 := Lib.hid (swk_on HKd.out HE1.out.hlt hk2 HM2.out.1.1); clear hk2
                  obtain ⟨cw30, cw31⟩ := HCc.out _ w3 HK2.out
                  go_wp2_with fail
                  have HSt := Lib.hid (show SortedIn lt mid stop d2 ∧ SortedIn lt stop b d2 from ⟨sorted_keep HF.out.2.2.1 (fun j h8 h9 => HM2.out.1.2.1 j (by omega)), sorted_keep HF.out.2.2.2.1 (fun j h8 h9 => HM2.out.1.2.1 j (by omega))⟩)
                  have HM3 := Lib.hid (show PermIn mid b d2 d2 ∧ SortedIn lt mid b d2 from ⟨permIn_refl _ _ _, by rw [show b = stop by omega]; exact HSt.out.1⟩)
                  have hz3 : d2.size = d.size := hz2
                  go_end0
                  exact ⟨rfl, d2, merge_halves (by omega) (by omega) (by omega) (by omega) (by omega) hb HF.out.2.2.2.2 HRot.out HM2.out HM3.out, swk_on HS1.out HB.out HK2.out hz3⟩
              · by_cases pD : stop < b
                · go_wp2_with fail
                  go_must (refine (rotate_w i m stop d (HE1.out.on hK.out rfl) (hK.out.holds HE1.out.hlt HH1.out rfl) pA pB2 (by omega)).mono ?_)
                  rintro e w2 ⟨rfl, d1, hrot, hk1⟩
                  have HRot := Lib.hid hrot; clear hrot
                  have HKd := Lib.hid (swk_on hK.out HE1.out.hlt hk1 HRot.out.size); clear hk1
                  have HF := Lib.hid (HKey.out d1 i wr hi hir (by rw [hst]; exact HRot.out) hL hR)
                  rw [hst] at HF
                  have hz1 : d1.size = d.size := HRot.out.size
                  obtain ⟨cw20, cw21⟩ := HCc.out _ w2 HKd.out
                  go_wp2_with fail
                  have HM2 := Lib.hid (show PermIn a mid d1 d1 ∧ SortedIn lt a mid d1 from ⟨permIn_refl _ _ _, by rw [show a = i by omega]; exact HF.out.2.1⟩)
                  have hz2 : d1.size = d.size := hz1
                  have HSt := Lib.hid (show SortedIn lt mid stop d1 ∧ SortedIn lt stop b d1 from ⟨sorted_keep HF.out.2.2.1 (fun j h8 h9 => HM2.out.1.2.1 j (by omega)), sorted_keep HF.out.2.2.2.1 (fun j h8 h9 => HM2.out.1.2.1 j (by omega))⟩)
                  go_must (refine (HI.out mid stop b d1 _ (by omega) (by rw [hz2]; exact HE1.out.on HKd.out hz2) (HKd.out.holds HE1.out.hlt HH1.out hz2) pA2 pD (by omega) HSt.out.1 HSt.out.2).mono ?_)
                  rintro e w4 ⟨rfl, d3, hs3, hk3⟩
                  have HM3 := Lib.hid hs3; clear hs3
                  have HK3 := Lib.hid (swk_on HKd.out HE1.out.hlt hk3 HM3.out.1.1); clear hk3
                  have hz3 : d3.size = d.size := HM3.out.1.1.trans hz2
                  go_wp2_with fail
                  go_end0
                  exact ⟨rfl, d3, merge_halves (by omega) (by omega) (by omega) (by omega) (by omega) hb HF.out.2.2.2.2 HRot.out HM2.out HM3.out, swk_on HS1.out HB.out HK3.out hz3⟩
                · go_wp2_with fail
                  go_must (refine (rotate_w i m stop d (HE1.out.on hK.out rfl) (hK.out.holds HE1.out.hlt HH1.out rfl) pA pB2 (by omega)).mono ?_)
                  rintro e w2 ⟨rfl, d1, hrot, hk1⟩
                  have HRot := Lib.hid hrot; clear hrot
                  have HKd := Lib.hid (swk_on hK.out HE1.out.hlt hk1 HRot.out.size); clear hk1
                  have HF := Lib.hid (HKey.out d1 i wr hi hir (by rw [hst]; exact HRot.out) hL hR)
                  rw [hst] at HF
                  have hz1 : d1.size = d.size := HRot.out.size
                  obtain ⟨cw20, cw21⟩ := HCc.out _ w2 HKd.out
                  go_wp2_with fail
                  have HM2 := Lib.hid (show PermIn a mid d1 d1 ∧ SortedIn lt a mid d1 from ⟨permIn_refl _ _ _, by rw [show a = i by omega]; exact HF.out.2.1⟩)
                  have hz2 : d1.size = d.size := hz1
                  have HSt := Lib.hid (show SortedIn lt mid stop d1 ∧ SortedIn lt stop b d1 from ⟨sorted_keep HF.out.2.2.1 (fun j h8 h9 => HM2.out.1.2.1 j (by omega)), sorted_keep HF.out.2.2.2.1 (fun j h8 h9 => HM2.out.1.2.1 j (by omega))⟩)
                  have HM3 := Lib.hid (show PermIn mid b d1 d1 ∧ SortedIn lt mid b d1 from ⟨permIn_refl _ _ _, by rw [show b = stop by omega]; exact HSt.out.1⟩)
                  have hz3 : d1.size = d.size := hz2
                  go_end0
                  exact ⟨rfl, d1, merge_halves (by omega) (by omega) (by omega) (by omega) (by omega) hb HF.out.2.2.2.2 HRot.out HM2.out HM3.out, swk_on HS1.out HB.out HKd.out hz3⟩
            · have pB2 : ¬ m < stop := by omega
              have pC : a < i := by omega
              by_cases pD : stop < b
              · go_wp2_with fail
                have HRot := Lib.hid (show Rotated d d i m stop by rw [show stop = m by omega]; exact Rotated.same_r d i m)
                have HKd := hK
                have HF := Lib.hid (HKey.out d i wr hi hir (by rw [hst]; exact HRot.out) hL hR)
                rw [hst] at HF
                have hz1 : d.size = d.size := HRot.out.size
                have HM2 := Lib.hid (show PermIn a mid d d ∧ SortedIn lt a mid d from ⟨permIn_refl _ _ _, by rw [show mid = i by omega]; exact HF.out.1⟩)
                have hz2 : d.size = d.size := hz1
                have HSt := Lib.hid (show SortedIn lt mid stop d ∧ SortedIn lt stop b d from ⟨sorted_keep HF.out.2.2.1 (fun j h8 h9 => HM2.out.1.2.1 j (by omega)), sorted_keep HF.out.2.2.2.1 (fun j h8 h9 => HM2.out.1.2.1 j (by omega))⟩)
                go_must (refine (HI.out mid stop b d _ (by omega) (by rw [hz2]; exact HE1.out.on HKd.out hz2) (HKd.out.holds HE1.out.hlt HH1.out hz2) pA2 pD (by omega) HSt.out.1 HSt.out.2).mono ?_)
                rintro e w4 ⟨rfl, d3, hs3, hk3⟩
                have HM3 := Lib.hid hs3; clear hs3
                have HK3 := Lib.hid (swk_on HKd.out HE1.out.hlt hk3 HM3.out.1.1); clear hk3
                have hz3 : d3.size = d.size := HM3.out.1.1.trans hz2
                go_wp2_with fail
                go_end0
                exact ⟨rfl, d3, merge_halves (by omega) (by omega) (by omega) (by omega) (by omega) hb HF.out.2.2.2.2 HRot.out HM2.out HM3.out, swk_on HS1.out HB.out HK3.out hz3⟩
              · go_wp2_with fail
                have HRot := Lib.hid (show Rotated d d i m stop by rw [show stop = m by omega]; exact Rotated.same_r d i m)
                have HKd := hK
                have HF := Lib.hid (HKey.out d i wr hi hir (by rw [hst]; exact HRot.out) hL hR)
                rw [hst] at HF
                have hz1 : d.size = d.size := HRot.out.size
                have HM2 := Lib.hid (show PermIn a mid d d ∧ SortedIn lt a mid d from ⟨permIn_refl _ _ _, by rw [show mid = i by omega]; exact HF.out.1⟩)
                have hz2 : d.size = d.size := hz1
                have HSt := Lib.hid (show SortedIn lt mid stop d ∧ SortedIn lt stop b d from ⟨sorted_keep HF.out.2.2.1 (fun j h8 h9 => HM2.out.1.2.1 j (by omega)), sorted_keep HF.out.2.2.2.1 (fun j h8 h9 => HM2.out.1.2.1 j (by omega))⟩)
                have HM3 := Lib.hid (show PermIn mid b d d ∧ SortedIn lt mid b d from ⟨permIn_refl _ _ _, by rw [show b = stop by omega]; exact HSt.out.1⟩)
                have hz3 : d.size = d.size := hz2
                go_end0
                exact ⟨rfl, d, merge_halves (by omega) (by omega) (by omega) (by omega) (by omega) hb HF.out.2.2.2.2 HRot.out HM2.out HM3.out, swk_on HS1.out HB.out HKd.out hz3⟩
          · have pA2 : ¬ mid < stop := by omega
            by_cases pB : i < mid
            · have pB2 : m < stop := by omega
              have pC : a < i := by omega
              go_wp2_with fail
              have HRot := Lib.hid (show Rotated d d i m stop by rw [show i = m by omega]; exact Rotated.same_l d m stop)
              have HKd := hK
              have HF := Lib.hid (HKey.out d i wr hi hir (by rw [hst]; exact HRot.out) hL hR)
              rw [hst] at HF
              have hz1 : d.size = d.size := HRot.out.size
              go_must (refine (HI.out a i mid d _ (by omega) (by rw [hz1]; exact HE1.out.on HKd.out hz1) (HKd.out.holds HE1.out.hlt HH1.out hz1) pC pB (by omega) HF.out.1 HF.out.2.1).mono ?_)
              rintro e w3 ⟨rfl, d2, hs2, hk2⟩
              have HM2 := Lib.hid hs2; clear hs2
              have hz2 : d2.size = d.size := HM2.out.1.1.trans hz1
              have HK2 := Lib.hid (swk_on HKd.out HE1.out.hlt hk2 HM2.out.1.1); clear hk2
              obtain ⟨cw30, cw31⟩ := HCc.out _ w3 HK2.out
              go_wp2_with fail
              have HSt := Lib.hid (show SortedIn lt mid stop d2 ∧ SortedIn lt stop b d2 from ⟨sorted_keep HF.out.2.2.1 (fun j h8 h9 => HM2.out.1.2.1 j (by omega)), sorted_keep HF.out.2.2.2.1 (fun j h8 h9 => HM2.out.1.2.1 j (by omega))⟩)
              have HM3 := Lib.hid (show PermIn mid b d2 d2 ∧ SortedIn lt mid b d2 from ⟨permIn_refl _ _ _, by rw [show mid = stop by omega]; exact HSt.out.2⟩)
              have hz3 : d2.size = d.size := hz2
              go_end0
              exact ⟨rfl, d2, merge_halves (by omega) (by omega) (by omega) (by omega) (by omega) hb HF.out.2.2.2.2 HRot.out HM2.out HM3.out, swk_on HS1.out HB.out HK2.out hz3⟩
            · have pB2 : ¬ m < stop := by omega
              have pC : a < i := by omega
              go_wp2_with fail
              have HRot := Lib.hid (show Rotated d d i m stop by rw [show i = m by omega]; exact Rotated.same_l d m stop)
              have HKd := hK
              have HF := Lib.hid (HKey.out d i wr hi hir (by rw [hst]; exact HRot.out) hL hR)
              rw [hst] at HF
              have hz1 : d.size = d.size := HRot.out.size
              have HM2 := Lib.hid (show PermIn a mid d d ∧ SortedIn lt a mid d from ⟨permIn_refl _ _ _, by rw [show mid = i by omega]; exact HF.out.1⟩)
              have hz2 : d.size = d.size := hz1
              have HSt := Lib.hid (show SortedIn lt mid stop d ∧ SortedIn lt stop b d from ⟨sorted_keep HF.out.2.2.1 (fun j h8 h9 => HM2.out.1.2.1 j (by omega)), sorted_keep HF.out.2.2.2.1 (fun j h8 h9 => HM2.out.1.2.1 j (by omega))⟩)
              have HM3 := Lib.hid (show PermIn mid b d d ∧ SortedIn lt mid b d from ⟨permIn_refl _ _ _, by rw [show mid = stop by omega]; exact HSt.out.2⟩)
              have hz3 : d.size = d.size := hz2
              go_end0
              exact ⟨rfl, d, merge_halves (by omega) (by omega) (by omega) (by omega) (by omega) hb HF.out.2.2.2.2 HRot.out HM2.out HM3.out, swk_on HS1.out HB.out HKd.out hz3⟩
    · have hx1 : (a : Int) = (s0 : Int) := by omega
      have hb1 : b ≤ mid + m ∨ m ≤ mid := by omega
      have hq : ¬ mid < m := by omega
      have HX := Lib.hid (show s0 = a ∧ r0 = m from ⟨h6, h7⟩); clear h6 h7 hx1
      have hsb : s0 ≤ d.size := by omega
      have hrb : r0 ≤ d.size := by omega
      go_enter Tryz.func109, Tryz.ntmps109
      go_wp2_with fail
      go_loopw [18, 19] (fun v18 v19 wr => ∃ (i j : Nat), v18 = .int .i64 i ∧ v19 = .int .i64 j ∧ s0 ≤ i ∧ i ≤ j ∧ j ≤ r0 ∧ Hid (i = s0 ∨ lt d[mid + m - 1 - (i - 1)]! d[i - 1]! = false) ∧ Hid (j = r0 ∨ lt d[mid + m - 1 - j]! d[j]! = true) ∧ Hid (SWK enc k (W.alloc (dataB g lb sf sb)) blk off d wr)) (fun v18 v19 _ => (intOf v19).toNat - (intOf v18).toNat)
      case atStart => exact ⟨s0, r0, by first | rfl | (congr 1; have := HX.out; omega), by first | rfl | (congr 1; have := HX.out; omega), Nat.le_refl _, hsr, Nat.le_refl _, Or.inl rfl, Or.inl rfl, SWK.start HH1.out⟩
      case round =>
        obtain ⟨i, j, rfl, rfl, hi, hij, hjr, hL, hR, hK⟩ := hrel
        obtain ⟨c0, c1⟩ := HCc.out d wr hK.out
        by_cases hlt : i < j
        · obtain ⟨h, hh⟩ : ∃ h : Nat, h = (i + j) / 2 := ⟨_, rfl⟩
          have hhx := half_int hh
          have hh2 : i ≤ h := by omega
          have hh3 : h < j := by omega
          clear hh
          obtain ⟨x, hx⟩ : ∃ x : Nat, x = mid + m - 1 - h := ⟨_, rfl⟩
          have hxx : (((mid : Int) + (m : Int)) - 1) - (h : Int) = (x : Int) := by omega
          have hxb : x < d.size := by have := HX.out; omega
          have hhb : h < d.size := by omega
          cases hr : lt d[x]! d[h]! with
          | true =>
            have hl := Lib.hid (less_at HE1.out hK.out x h hxb hhb true hr)
            rw [hx] at hr
            have HR1 := Lib.hid hr; clear hr hx
            go_wp2_with (go_at_fn g; refine (hl.out).mono ?_; rintro e w' ⟨rfl, hk9⟩; have HK9 := Lib.hid hk9; clear hk9)
            go_roundw
            case rel => exact ⟨i, h, rfl, rfl, hi, hh2, by omega, hL, Or.inr HR1.out, HK9⟩
            case measure => simp [intOf]; omega
          | false =>
            have hl := Lib.hid (less_at HE1.out hK.out x h hxb hhb false hr)
            rw [hx] at hr
            have HR1 := Lib.hid hr; clear hr hx
            go_wp2_with (go_at_fn g; refine (hl.out).mono ?_; rintro e w' ⟨rfl, hk9⟩; have HK9 := Lib.hid hk9; clear hk9)
            go_roundw
            case rel => exact ⟨h + 1, j, by go_num, rfl, by omega, by omega, hjr, Or.inr (by rw [Nat.add_sub_cancel]; exact HR1.out), hR, HK9⟩
            case measure => simp [intOf]; omega
        · have hij2 : i = j := by omega
          subst hij2
          clear hij hlt
          have hir : i ≤ r0 := hjr
          obtain ⟨stop, hst⟩ : ∃ stop : Nat, mid + m - i = stop := ⟨_, rfl⟩
          obtain ⟨he1, he2⟩ := HEnd.out i hi hir
          rw [hst] at he1 he2
          have hsx : ((mid : Int) + (m : Int)) - (i : Int) = (stop : Int) := by omega
          have hai : a ≤ i := by omega
          have him : i ≤ mid := by have := HX.out; omega
          have him2 : i ≤ m := by omega
          by_cases pA : i < m
          · have pA2 : mid < stop := by omega
            by_cases pB : i < mid
            · have pB2 : m < stop := by omega
              by_cases pC : a < i
              · by_cases pD : stop < b
                · go_wp2_with fail
                  go_must (refine (rotate_w i m stop d (HE1.out.on hK.out rfl) (hK.out.holds HE1.out.hlt HH1.out rfl) pA pB2 (by omega)).mono ?_)
                  rintro e w2 ⟨rfl, d1, hrot, hk1⟩
                  have HRot := Lib.hid hrot; clear hrot
                  have HKd := Lib.hid (swk_on hK.out HE1.out.hlt hk1 HRot.out.size); clear hk1
                  have HF := Lib.hid (HKey.out d1 i wr hi hir (by rw [hst]; exact HRot.out) hL hR)
                  rw [hst] at HF
                  have hz1 : d1.size = d.size := HRot.out.size
                  obtain ⟨cw20, cw21⟩ := HCc.out _ w2 HKd.out
                  go_wp2_with fail
                  go_must (refine (HI.out a i mid d1 _ (by omega) (by rw [hz1]; exact HE1.out.on HKd.out hz1) (HKd.out.holds HE1.out.hlt HH1.out hz1) pC pB (by omega) HF.out.1 HF.out.2.1).mono ?_)
                  rintro e w3 ⟨rfl, d2, hs2, hk2⟩
                  have HM2 := Lib.hid hs2; clear hs2
                  have hz2 : d2.size = d.size := HM2.out.1.1.trans hz1
                  have HK2 := Lib.hid (swk_on HKd.out HE1.out.hlt hk2 HM2.out.1.1); clear hk2
                  obtain ⟨cw30, cw31⟩ := HCc.out _ w3 HK2.out
                  go_wp2_with fail
                  have HSt := Lib.hid (show SortedIn lt mid stop d2 ∧ SortedIn lt stop b d2 from ⟨sorted_keep HF.out.2.2.1 (fun j h8 h9 => HM2.out.1.2.1 j (by omega)), sorted_keep HF.out.2.2.2.1 (fun j h8 h9 => HM2.out.1.2.1 j (by omega))⟩)
                  go_must (refine (HI.out mid stop b d2 _ (by omega) (by rw [hz2]; exact HE1.out.on HK2.out hz2) (HK2.out.holds HE1.out.hlt HH1.out hz2) pA2 pD (by omega) HSt.out.1 HSt.out.2).mono ?_)
                  rintro e w4 ⟨rfl, d3, hs3, hk3⟩
                  have HM3 := Lib.hid hs3; clear hs3
                  have HK3 := Lib.hid (swk_on HK2.out HE1.out.hlt hk3 HM3.out.1.1); clear hk3
                  have hz3 : d3.size = d.size := HM3.out.1.1.trans hz2
                  go_wp2_with fail
                  go_end0
                  exact ⟨rfl, d3, merge_halves (by omega) (by omega) (by omega) (by omega) (by omega) hb HF.out.2.2.2.2 HRot.out HM2.out HM3.out, swk_on HS1.out HB.out HK3.out hz3⟩
                · go_wp2_with fail
                  go_must (refine (rotate_w i m stop d (HE1.out.on hK.out rfl) (hK.out.holds HE1.out.hlt HH1.out rfl) pA pB2 (by omega)).mono ?_)
                  rintro e w2 ⟨rfl, d1, hrot, hk1⟩
                  have HRot := Lib.hid hrot; clear hrot
                  have HKd := Lib.hid (swk_on hK.out HE1.out.hlt hk1 HRot.out.size); clear hk1
                  have HF := Lib.hid (HKey.out d1 i wr hi hir (by rw [hst]; exact HRot.out) hL hR)
                  rw [hst] at HF
                  have hz1 : d1.size = d.size := HRot.out.size
                  obtain ⟨cw20, cw21⟩ := HCc.out _ w2 HKd.out
                  go_wp2_with fail
                  go_must (refine (HI.out a i mid d1 _ (by omega) (by rw [hz1]; exact HE1.out.on HKd.out hz1) (HKd.out.holds HE1.out.hlt HH1.out hz1) pC pB (by omega) HF.out.1 HF.out.2.1).mono ?_)
                  rintro e w3 ⟨rfl, d2, hs2, hk2⟩
                  have HM2 := Lib.hid hs2; clear hs2
                  have hz2 : d2.size = d.size := HM2.out.1.1.trans hz1
                  have HK2 := Lib.hid (swk_on HKd.out HE1.out.hlt hk2 HM2.out.1.1); clear hk2
                  obtain ⟨cw30, cw31⟩ := HCc.out _ w3 HK2.out
                  go_wp2_with fail
                  have HSt := Lib.hid (show SortedIn lt mid stop d2 ∧ SortedIn lt stop b d2 from ⟨sorted_keep HF.out.2.2.1 (fun j h8 h9 => HM2.out.1.2.1 j (by omega)), sorted_keep HF.out.2.2.2.1 (fun j h8 h9 => HM2.out.1.2.1 j (by omega))⟩)
                  have HM3 := Lib.hid (show PermIn mid b d2 d2 ∧ SortedIn lt mid b d2 from ⟨permIn_refl _ _ _, by rw [show b = stop by omega]; exact HSt.out.1⟩)
                  have hz3 : d2.size = d.size := hz2
                  go_end0
                  exact ⟨rfl, d2, merge_halves (by omega) (by omega) (by omega) (by omega) (by omega) hb HF.out.2.2.2.2 HRot.out HM2.out HM3.out, swk_on HS1.out HB.out HK2.out hz3⟩
              · by_cases pD : stop < b
                · go_wp2_with fail
                  go_must (refine (rotate_w i m stop d (HE1.out.on hK.out rfl) (hK.out.holds HE1.out.hlt HH1.out rfl) pA pB2 (by omega)).mono ?_)
                  rintro e w2 ⟨rfl, d1, hrot, hk1⟩
                  have HRot := Lib.hid hrot; clear hrot
                  have HKd := Lib.hid (swk_on hK.out HE1.out.hlt hk1 HRot.out.size); clear hk1
                  have HF := Lib.hid (HKey.out d1 i wr hi hir (by rw [hst]; exact HRot.out) hL hR)
                  rw [hst] at HF
                  have hz1 : d1.size = d.size := HRot.out.size
                  obtain ⟨cw20, cw21⟩ := HCc.out _ w2 HKd.out
                  go_wp2_with fail
                  have HM2 := Lib.hid (show PermIn a mid d1 d1 ∧ SortedIn lt a mid d1 from ⟨permIn_refl _ _ _, by rw [show a = i by omega]; exact HF.out.2.1⟩)
                  have hz2 : d1.size = d.size := hz1
                  have HSt := Lib.hid (show SortedIn lt mid stop d1 ∧ SortedIn lt stop b d1 from ⟨sorted_keep HF.out.2.2.1 (fun j h8 h9 => HM2.out.1.2.1 j (by omega)), sorted_keep HF.out.2.2.2.1 (fun j h8 h9 => HM2.out.1.2.1 j (by omega))⟩)
                  go_must (refine (HI.out mid stop b d1 _ (by omega) (by rw [hz2]; exact HE1.out.on HKd.out hz2) (HKd.out.holds HE1.out.hlt HH1.out hz2) pA2 pD (by omega) HSt.out.1 HSt.out.2).mono ?_)
                  rintro e w4 ⟨rfl, d3, hs3, hk3⟩
                  have HM3 := Lib.hid hs3; clear hs3
                  have HK3 := Lib.hid (swk_on HKd.out HE1.out.hlt hk3 HM3.out.1.1); clear hk3
                  have hz3 : d3.size = d.size := HM3.out.1.1.trans hz2
                  go_wp2_with fail
                  go_end0
                  exact ⟨rfl, d3, merge_halves (by omega) (by omega) (by omega) (by omega) (by omega) hb HF.out.2.2.2.2 HRot.out HM2.out HM3.out, swk_on HS1.out HB.out HK3.out hz3⟩
                · go_wp2_with fail
                  go_must (refine (rotate_w i m stop d (HE1.out.on hK.out rfl) (hK.out.holds HE1.out.hlt HH1.out rfl) pA pB2 (by omega)).mono ?_)
                  rintro e w2 ⟨rfl, d1, hrot, hk1⟩
                  have HRot := Lib.hid hrot; clear hrot
                  have HKd := Lib.hid (swk_on hK.out HE1.out.hlt hk1 HRot.out.size); clear hk1
                  have HF := Lib.hid (HKey.out d1 i wr hi hir (by rw [hst]; exact HRot.out) hL hR)
                  rw [hst] at HF
                  have hz1 : d1.size = d.size := HRot.out.size
                  obtain ⟨cw20, cw21⟩ := HCc.out _ w2 HKd.out
                  go_wp2_with fail
                  have HM2 := Lib.hid (show PermIn a mid d1 d1 ∧ SortedIn lt a mid d1 from ⟨permIn_refl _ _ _, by rw [show a = i by omega]; exact HF.out.2.1⟩)
                  have hz2 : d1.size = d.size := hz1
                  have HSt := Lib.hid (show SortedIn lt mid stop d1 ∧ SortedIn lt stop b d1 from ⟨sorted_keep HF.out.2.2.1 (fun j h8 h9 => HM2.out.1.2.1 j (by omega)), sorted_keep HF.out.2.2.2.1 (fun j h8 h9 => HM2.out.1.2.1 j (by omega))⟩)
                  have HM3 := Lib.hid (show PermIn mid b d1 d1 ∧ SortedIn lt mid b d1 from ⟨permIn_refl _ _ _, by rw [show b = stop by omega]; exact HSt.out.1⟩)
                  have hz3 : d1.size = d.size := hz2
                  go_end0
                  exact ⟨rfl, d1, merge_halves (by omega) (by omega) (by omega) (by omega) (by omega) hb HF.out.2.2.2.2 HRot.out HM2.out HM3.out, swk_on HS1.out HB.out HKd.out hz3⟩
            · have pB2 : ¬ m < stop := by omega
              have pC : a < i := by omega
              by_cases pD : stop < b
              · go_wp2_with fail
                have HRot := Lib.hid (show Rotated d d i m stop by rw [show stop = m by omega]; exact Rotated.same_r d i m)
                have HKd := hK
                have HF := Lib.hid (HKey.out d i wr hi hir (by rw [hst]; exact HRot.out) hL hR)
                rw [hst] at HF
                have hz1 : d.size = d.size := HRot.out.size
                have HM2 := Lib.hid (show PermIn a mid d d ∧ SortedIn lt a mid d from ⟨permIn_refl _ _ _, by rw [show mid = i by omega]; exact HF.out.1⟩)
                have hz2 : d.size = d.size := hz1
                have HSt := Lib.hid (show SortedIn lt mid stop d ∧ SortedIn lt stop b d from ⟨sorted_keep HF.out.2.2.1 (fun j h8 h9 => HM2.out.1.2.1 j (by omega)), sorted_keep HF.out.2.2.2.1 (fun j h8 h9 => HM2.out.1.2.1 j (by omega))⟩)
                go_must (refine (HI.out mid stop b d _ (by omega) (by rw [hz2]; exact HE1.out.on HKd.out hz2) (HKd.out.holds HE1.out.hlt HH1.out hz2) pA2 pD (by omega) HSt.out.1 HSt.out.2).mono ?_)
                rintro e w4 ⟨rfl, d3, hs3, hk3⟩
                have HM3 := Lib.hid hs3; clear hs3
                have HK3 := Lib.hid (swk_on HKd.out HE1.out.hlt hk3 HM3.out.1.1); clear hk3
                have hz3 : d3.size = d.size := HM3.out.1.1.trans hz2
                go_wp2_with fail
                go_end0
                exact ⟨rfl, d3, merge_halves (by omega) (by omega) (by omega) (by omega) (by omega) hb HF.out.2.2.2.2 HRot.out HM2.out HM3.out, swk_on HS1.out HB.out HK3.out hz3⟩
              · go_wp2_with fail
                have HRot := Lib.hid (show Rotated d d i m stop by rw [show stop = m by omega]; exact Rotated.same_r d i m)
                have HKd := hK
                have HF := Lib.hid (HKey.out d i wr hi hir (by rw [hst]; exact HRot.out) hL hR)
                rw [hst] at HF
                have hz1 : d.size = d.size := HRot.out.size
                have HM2 := Lib.hid (show PermIn a mid d d ∧ SortedIn lt a mid d from ⟨permIn_refl _ _ _, by rw [show mid = i by omega]; exact HF.out.1⟩)
                have hz2 : d.size = d.size := hz1
                have HSt := Lib.hid (show SortedIn lt mid stop d ∧ SortedIn lt stop b d from ⟨sorted_keep HF.out.2.2.1 (fun j h8 h9 => HM2.out.1.2.1 j (by omega)), sorted_keep HF.out.2.2.2.1 (fun j h8 h9 => HM2.out.1.2.1 j (by omega))⟩)
                have HM3 := Lib.hid (show PermIn mid b d d ∧ SortedIn lt mid b d from ⟨permIn_refl _ _ _, by rw [show b = stop by omega]; exact HSt.out.1⟩)
                have hz3 : d.size = d.size := hz2
                go_end0
                exact ⟨rfl, d, merge_halves (by omega) (by omega) (by omega) (by omega) (by omega) hb HF.out.2.2.2.2 HRot.out HM2.out HM3.out, swk_on HS1.out HB.out HKd.out hz3⟩
          · have pA2 : ¬ mid < stop := by omega
            by_cases pB : i < mid
            · have pB2 : m < stop := by omega
              have pC : a < i := by omega
              go_wp2_with fail
              have HRot := Lib.hid (show Rotated d d i m stop by rw [show i = m by omega]; exact Rotated.same_l d m stop)
              have HKd := hK
              have HF := Lib.hid (HKey.out d i wr hi hir (by rw [hst]; exact HRot.out) hL hR)
              rw [hst] at HF
              have hz1 : d.size = d.size := HRot.out.size
              go_must (refine (HI.out a i mid d _ (by omega) (by rw [hz1]; exact HE1.out.on HKd.out hz1) (HKd.out.holds HE1.out.hlt HH1.out hz1) pC pB (by omega) HF.out.1 HF.out.2.1).mono ?_)
              rintro e w3 ⟨rfl, d2, hs2, hk2⟩
              have HM2 := Lib.hid hs2; clear hs2
              have hz2 : d2.size = d.size := HM2.out.1.1.trans hz1
              have HK2 := Lib.hid (swk_on HKd.out HE1.out.hlt hk2 HM2.out.1.1); clear hk2
              obtain ⟨cw30, cw31⟩ := HCc.out _ w3 HK2.out
              go_wp2_with fail
              have HSt := Lib.hid (show SortedIn lt mid stop d2 ∧ SortedIn lt stop b d2 from ⟨sorted_keep HF.out.2.2.1 (fun j h8 h9 => HM2.out.1.2.1 j (by omega)), sorted_keep HF.out.2.2.2.1 (fun j h8 h9 => HM2.out.1.2.1 j (by omega))⟩)
              have HM3 := Lib.hid (show PermIn mid b d2 d2 ∧ SortedIn lt mid b d2 from ⟨permIn_refl _ _ _, by rw [show mid = stop by omega]; exact HSt.out.2⟩)
              have hz3 : d2.size = d.size := hz2
              go_end0
              exact ⟨rfl, d2, merge_halves (by omega) (by omega) (by omega) (by omega) (by omega) hb HF.out.2.2.2.2 HRot.out HM2.out HM3.out, swk_on HS1.out HB.out HK2.out hz3⟩
            · have pB2 : ¬ m < stop := by omega
              have pC : a < i := by omega
              go_wp2_with fail
              have HRot := Lib.hid (show Rotated d d i m stop by rw [show i = m by omega]; exact Rotated.same_l d m stop)
              have HKd := hK
              have HF := Lib.hid (HKey.out d i wr hi hir (by rw [hst]; exact HRot.out) hL hR)
              rw [hst] at HF
              have hz1 : d.size = d.size := HRot.out.size
              have HM2 := Lib.hid (show PermIn a mid d d ∧ SortedIn lt a mid d from ⟨permIn_refl _ _ _, by rw [show mid = i by omega]; exact HF.out.1⟩)
              have hz2 : d.size = d.size := hz1
              have HSt := Lib.hid (show SortedIn lt mid stop d ∧ SortedIn lt stop b d from ⟨sorted_keep HF.out.2.2.1 (fun j h8 h9 => HM2.out.1.2.1 j (by omega)), sorted_keep HF.out.2.2.2.1 (fun j h8 h9 => HM2.out.1.2.1 j (by omega))⟩)
              have HM3 := Lib.hid (show PermIn mid b d d ∧ SortedIn lt mid b d from ⟨permIn_refl _ _ _, by rw [show mid = stop by omega]; exact HSt.out.2⟩)
              have hz3 : d.size = d.size := hz2
              go_end0
              exact ⟨rfl, d, merge_halves (by omega) (by omega) (by omega) (by omega) (by omega) hb HF.out.2.2.2.2 HRot.out HM2.out HM3.out, swk_on HS1.out HB.out HKd.out hz3⟩
end
end Go.Proofs.YtbhildmalcfhiaaGreatDoor

namespace Go.Proofs.YtbhildmalcfhiaaGreatDoor
open Go.RowKit Go.Deep Go.Sort

section
variable {α : Type} [Inhabited α]
variable {enc : α → List Value} {k : Nat} {lt : α → α → Bool} {g : Nat} {lb : Array Value} {sf : Nat} {sb : Array Value} {blk off : Nat} {W : World}

/-- runs of s elements are sorted, those that begin at lo ≤ .. < hi -/
def Runs (lt : α → α → Bool) (d : Array α) (s n lo hi : Nat) : Prop := ∀ q, lo ≤ q * s → q * s < hi → SortedIn lt (q * s) (min (q * s + s) n) d

theorem Runs.start (lt : α → α → Bool) (d : Array α) (s n lo : Nat) : Runs lt d s n lo 0 := fun q _ h => absurd h (by omega)
theorem Runs.ext {d d' : Array α} {s n e : Nat} (q : Nat) (hs : 0 < s) (h : Runs lt d s n 0 (q * s)) (hp : PermIn (q * s) e d d') (hn : SortedIn lt (q * s) (min (q * s + s) n) d') (hi : Nat) (hhi : hi ≤ q * s + s) : Runs lt d' s n 0 hi := fun r _ hr => by
  rcases Nat.lt_trichotomy r q with h1 | h1 | h1
  · have h2 : (r + 1) * s ≤ q * s := Nat.mul_le_mul_right _ h1
    rw [Nat.succ_mul] at h2
    exact sorted_keep (h r (Nat.zero_le _) (by omega)) (fun i h3 h4 => hp.2.1 i (Or.inl (by omega)))
  · subst h1; exact hn
  · have h2 : (q + 1) * s ≤ r * s := Nat.mul_le_mul_right _ h1
    rw [Nat.succ_mul] at h2
    omega
theorem Runs.rest {d d' : Array α} {s n a e : Nat} (h : Runs lt d s n a n) (hp : PermIn a e d d') (hae : a ≤ e) : Runs lt d' s n e n := fun r h1 h2 =>
  sorted_keep (h r (by omega) h2) (fun i h3 _ => hp.2.1 i (Or.inr (by omega)))
theorem twice (q s : Nat) : 2 * q * s = q * (2 * s) := by rw [Nat.mul_comm 2 q, Nat.mul_assoc]
theorem Runs.left {d : Array α} {s n q : Nat} (h : Runs lt d s n (q * (2 * s)) n) (hlt : q * (2 * s) < n) : SortedIn lt (q * (2 * s)) (min (q * (2 * s) + s) n) d := by
  have := h (2 * q) (by rw [twice]; omega) (by rw [twice]; exact hlt)
  rw [twice] at this; exact this
theorem Runs.right {d : Array α} {s n q : Nat} (h : Runs lt d s n (q * (2 * s)) n) (hlt : q * (2 * s) + s < n) : SortedIn lt (q * (2 * s) + s) (min (q * (2 * s) + s + s) n) d := by
  have e : (2 * q + 1) * s = q * (2 * s) + s := by rw [Nat.succ_mul, twice]
  have := h (2 * q + 1) (by rw [e]; omega) (by rw [e]; exact hlt)
  rw [e] at this; exact this

def StPost (enc : α → List Value) (k blk off : Nat) (lt : α → α → Bool) (d : Array α) (W : World) (e : Ending) (w' : World) : Prop := e = .returned (.tuple #[]) ∧ ∃ d', (PermIn 0 d.size d d' ∧ SortedIn lt 0 d.size d') ∧ SWK enc k W blk off d' w'

theorem inner_yes {lt : α → α → Bool} {a p : Nat} {d : Array α} (hp : a < p + 1) (h : lt d[p + 1]! d[p]! = true) : insInner lt a (p + 1) d = insInner lt a p (swp d (p + 1) p) := by
  rw [insInner, h, if_pos (by simpa using hp)]
theorem inner_no {lt : α → α → Bool} {a p : Nat} {d : Array α} (h : lt d[p + 1]! d[p]! = false) : insInner lt a (p + 1) d = d := by
  rw [insInner, h, if_neg (by simp)]
theorem inner_end {lt : α → α → Bool} {a : Nat} {d : Array α} : insInner lt a a d = d := by
  cases a with
  | zero => rfl
  | succ p => rw [insInner, if_neg (by simp)]
theorem outer_yes {lt : α → α → Bool} {a b i : Nat} {d : Array α} (h : i < b) : insOuter lt a b i d = insOuter lt a b (i + 1) (insInner lt a i d) := by
  rw [insOuter, if_pos h]
theorem outer_end {lt : α → α → Bool} {a b i : Nat} {d : Array α} (h : ¬ i < b) : insOuter lt a b i d = d := by
  rw [insOuter, if_neg h]
set_option maxHeartbeats 4000000 in
set_option maxRecDepth 100000 in
theorem insertion_w (hO : SWO lt) (a b : Nat) (d : Array α) {W : World} (E : SEnv enc k lt g lb sf sb blk off d.size W) (hH : HoldsK enc k W blk off d) (hab : a ≤ b) (hb : b ≤ d.size) :
    Calls Tryz.prog 108 #[dataV g lb sf sb, .int .i64 a, .int .i64 b] W (SymPost enc k blk off lt a b d W) := by
  have hsz := E.sz
  have hblk := E.hlt
  have eg := E.eg
  have HE1 := Lib.hid (E.alloc (dataB g lb sf sb))
  have HH1 := Lib.hid (holds_box hH hblk (dataB g lb sf sb))
  have HS1 := Lib.hid (swk_box hH (dataB g lb sf sb))
  have HB := Lib.hid hblk
  have cc : ∀ (dk : Array α) (wx : World), SWK enc k (W.alloc (dataB g lb sf sb)) blk off dk wx → wx.cell? ⟨W.heap.size, 0, none⟩ = some (.func (.func g) #[] lb) ∧ wx.cell? ⟨W.heap.size, 1, none⟩ = some (.func (.func sf) #[] sb) := fun dk wx h2 => by
    have := HB.out
    rw [swk_cell h2 _ _ (by omega) (by rw [World.size_alloc]; omega), swk_cell h2 _ _ (by omega) (by rw [World.size_alloc]; omega)]; simp
  have HCc := Lib.hid cc; clear cc
  have HIh := Lib.hid (insertionSort_holds hO d a b hab hb)
  clear hH E hO
  go_enter Tryz.func108, Tryz.ntmps108
  go_wp2_with fail
  go_loopw [6] (fun v6 wr => ∃ (i : Nat) (dk : Array α), v6 = .int .i64 i ∧ a + 1 ≤ i ∧ i ≤ b + 1 ∧ Hid (dk.size = d.size) ∧ Hid (insOuter lt a b i dk = insertionSort lt d a b) ∧ Hid (SWK enc k (W.alloc (dataB g lb sf sb)) blk off dk wr)) (fun v6 _ => b + 1 - (intOf v6).toNat)
  case atStart => exact ⟨a + 1, d, by go_num, Nat.le_refl _, by omega, Lib.hid rfl, Lib.hid rfl, Lib.hid (SWK.start HH1.out)⟩
  case round =>
    obtain ⟨i, dk, rfl, hi1, hi2, hds, hEq, hK⟩ := hrel
    by_cases hlt : i < b
    · have hEq1 := Lib.hid ((outer_yes hlt).symm.trans hEq.out)
      go_wp2_with fail
      go_loopw [7] (fun v7 wr => ∃ (j : Nat) (d2 : Array α), v7 = .int .i64 j ∧ j ≤ i ∧ a ≤ j ∧ Hid (d2.size = d.size) ∧ Hid (insInner lt a j d2 = insInner lt a i dk) ∧ Hid (SWK enc k (W.alloc (dataB g lb sf sb)) blk off d2 wr)) (fun v7 _ => (intOf v7).toNat)
      case atStart => exact ⟨i, dk, rfl, Nat.le_refl _, by omega, hds, Lib.hid rfl, hK⟩
      case round =>
        clear hK
        obtain ⟨j, d2, rfl, hji, haj, hds2, hEq2, hK2⟩ := hrel
        obtain ⟨c0, c1⟩ := HCc.out d2 _ hK2.out
        by_cases hja : a < j
        · obtain ⟨p, hp⟩ : ∃ p, p + 1 = j := ⟨j - 1, by omega⟩
          have hjp : (j : Int) - 1 = (p : Int) := by omega
          have HP := Lib.hid hp; clear hp
          have hp1 : a ≤ p := by have := HP.out; omega
          have hp2 : p ≤ i := by have := HP.out; omega
          have HE2 := Lib.hid (show SEnv enc k lt g lb sf sb blk off d2.size (W.alloc (dataB g lb sf sb)) by rw [hds2.out]; exact HE1.out)
          have hjd : j < d2.size := by rw [hds2.out]; omega
          have hpd : p < d2.size := by have := HP.out; omega
          cases hr : lt d2[j]! d2[p]! with
          | true =>
            have hl := Lib.hid (less_at HE2.out hK2.out j p hjd hpd true hr)
            have HR1 := Lib.hid (show insInner lt a p (swp d2 j p) = insInner lt a i dk by rw [← hEq2.out, ← HP.out]; exact (inner_yes (by have := HP.out; omega) (by rw [HP.out]; exact hr)).symm)
            clear hr
            go_wp2_with (go_at_fn g; refine (hl.out).mono ?_; rintro e w' ⟨rfl, hk9⟩; have hs := HE2.out.swap _ d2 (SWK.holds hk9 HE2.out.hlt HH1.out hds2.out) rfl j p hjd hpd; have HK9 := Lib.hid (SWK.swap hk9 HE2.out.hk HE2.out.hlt j p hjd hpd); have ⟨c2, c3⟩ := HCc.out d2 _ hk9; clear hk9)
            go_roundw
            case rel => exact ⟨p, _, by go_num, hp2, hp1, Lib.hid (by rw [size_swp]; exact hds2.out), HR1, Lib.hid (by have h9 := HK9.out; rw [getElem!_pos d2 p hpd, getElem!_pos d2 j hjd] at h9; exact h9)⟩
            case measure => have := HP.out; simp [intOf]; omega
          | false =>
            have hl := Lib.hid (less_at HE2.out hK2.out j p hjd hpd false hr)
            have HR1 := Lib.hid (show insInner lt a i dk = d2 by rw [← hEq2.out, ← HP.out]; exact inner_no (by rw [HP.out]; exact hr))
            clear hr
            go_wp2_with (go_at_fn g; refine (hl.out).mono ?_; rintro e w' ⟨rfl, hk9⟩; have HK9 := Lib.hid hk9; clear hk9)
            go_roundw
            case rel => exact ⟨i + 1, d2, by go_num, by omega, by omega, hds2, Lib.hid (by rw [← HR1.out]; exact hEq1.out), HK9⟩
            case measure => simp [intOf]; omega
        · obtain rfl : j = a := by omega
          have HR1 := Lib.hid (show insInner lt j i dk = d2 by rw [← hEq2.out]; exact inner_end)
          go_wp2_with fail
          go_roundw
          case rel => exact ⟨i + 1, d2, by go_num, by omega, by omega, hds2, Lib.hid (by rw [← HR1.out]; exact hEq1.out), hK2⟩
          case measure => simp [intOf]; omega
    · have hEq1 := Lib.hid ((outer_end hlt).symm.trans hEq.out)
      go_wp2_with fail
      go_end0
      exact ⟨rfl, dk, by rw [hEq1.out]; exact HIh.out, swk_on HS1.out HB.out hK.out hds.out⟩

set_option maxHeartbeats 8000000 in
set_option maxRecDepth 100000 in
theorem stable_w (hO : SWO lt) (d : Array α) (E : SEnv enc k lt g lb sf sb blk off d.size W) (hH : HoldsK enc k W blk off d) (hsmall : d.size ≤ 1099511627776) :
    Calls Tryz.prog 65 #[dataV g lb sf sb, .int .i64 d.size] W (StPost enc k blk off lt d W) := by
  have hsz := E.sz
  have hblk := E.hlt
  have HE1 := Lib.hid (E.alloc (dataB g lb sf sb))
  have HH1 := Lib.hid (holds_box hH hblk (dataB g lb sf sb))
  have HS1 := Lib.hid (swk_box hH (dataB g lb sf sb))
  have HB := Lib.hid hblk
  have HO := Lib.hid hO
  have cc : ∀ (dk : Array α) (wx : World), SWK enc k (W.alloc (dataB g lb sf sb)) blk off dk wx → wx.cell? ⟨W.heap.size, 0, none⟩ = some (.func (.func g) #[] lb) ∧ wx.cell? ⟨W.heap.size, 1, none⟩ = some (.func (.func sf) #[] sb) := fun dk wx h2 => by
    have := HB.out
    rw [swk_cell h2 _ _ (by omega) (by rw [World.size_alloc]; omega), swk_cell h2 _ _ (by omega) (by rw [World.size_alloc]; omega)]; simp
  have HCc := Lib.hid cc; clear cc
  obtain ⟨n, hn⟩ : ∃ n : Nat, d.size = n := ⟨_, rfl⟩
  rw [hn] at hsz hsmall ⊢
  clear hH E hO
  go_enter Tryz.func65, Tryz.ntmps65
  go_wp2_with fail
  go_loopw [5, 6] (fun v5 v6 wr => ∃ (q a : Nat) (dk : Array α), v5 = .int .i64 a ∧ v6 = .int .i64 ((a : Int) + 20) ∧ Hid (a = q * 20) ∧ a ≤ n ∧ Hid (PermIn 0 n d dk) ∧ Hid (Runs lt dk 20 n 0 (q * 20)) ∧ Hid (SWK enc k (W.alloc (dataB g lb sf sb)) blk off dk wr)) (fun v5 v6 _ => n + 20 - (intOf v5).toNat)
  case atStart => exact ⟨0, 0, d, rfl, rfl, by show _ = _; omega, Nat.zero_le _, permIn_refl _ _ _, by show Runs _ _ _ _ _ _; rw [Nat.zero_mul]; exact Runs.start _ _ _ _ _, SWK.start HH1.out⟩
  case round =>
    obtain ⟨q, a, dk, rfl, rfl, hq, han, hP, hR, hK⟩ := hrel
    obtain ⟨c0, c1⟩ := HCc.out dk wr hK.out
    have hds : dk.size = d.size := hP.out.1
    have hdn : dk.size = n := hds.trans hn
    by_cases hlt : a + 20 ≤ n
    · have hc := insertion_w HO.out a (a + 20) dk (by rw [hds]; exact HE1.out.on hK.out hds) (hK.out.holds HE1.out.hlt HH1.out hds) (by omega) (by omega)
      rw [show ((a + 20 : Nat) : Int) = (a : Int) + 20 by omega] at hc
      have HC := Lib.hid hc; clear hc
      go_wp2_with (go_at_call 108; go_must (refine HC.out.mono ?_); rintro e w2 ⟨rfl, d1, hd1, hk1⟩; have HD := Lib.hid hd1; have HK1 := Lib.hid hk1; clear hd1 hk1)
      go_roundw
      case rel =>
        have hq2 := hq.out
        refine ⟨q + 1, a + 20, d1, by go_num, by congr 1 <;> omega, by show _ = _; omega, by omega, permIn_trans _ _ _ _ _ hP.out (permIn_mono _ _ _ _ _ _ (Nat.zero_le _) (by omega) (by omega) HD.out.1), ?_, swk_on hK.out HE1.out.hlt HK1.out HD.out.1.1⟩
        refine Runs.ext (e := a + 20) q (by omega) hR.out (by rw [← hq2]; exact HD.out.1) ?_ _ (by omega)
        rw [← hq2, Nat.min_eq_left (by omega)]; exact HD.out.2
      case measure => simp [intOf]; omega
    · have hc := insertion_w HO.out a n dk (by rw [hds]; exact HE1.out.on hK.out hds) (hK.out.holds HE1.out.hlt HH1.out hds) han (by omega)
      have HC := Lib.hid hc; clear hc
      go_wp2_with (go_at_call 108; go_must (refine HC.out.mono ?_); rintro e w2 ⟨rfl, d1, hd1, hk1⟩; have HD := Lib.hid hd1; have HK1 := Lib.hid (swk_on hK.out HE1.out.hlt hk1 hd1.1.1); clear hd1 hk1)
      have hR1 : Runs lt d1 20 n 0 n := by
        have hq2 := hq.out
        refine Runs.ext (e := n) q (by omega) hR.out (by rw [← hq2]; exact HD.out.1) ?_ _ (by omega)
        rw [← hq2, Nat.min_eq_right (by omega)]; exact HD.out.2
      have hP1 : PermIn 0 n d d1 := permIn_trans _ _ _ _ _ hP.out (permIn_mono _ _ _ _ _ _ (Nat.zero_le _) (Nat.le_refl _) (by omega) HD.out.1)
      have HR1 := Lib.hid hR1
      have HP1 := Lib.hid hP1
      clear hR1 hP1 c0 c1
      go_loopw [4, 5, 6] (fun v4 v5 v6 wr => ∃ (s a1 b1 : Nat) (dk : Array α), v4 = .int .i64 s ∧ v5 = .int .i64 a1 ∧ v6 = .int .i64 b1 ∧ 20 ≤ s ∧ s ≤ 2 * n + 20 ∧ Hid (PermIn 0 n d dk) ∧ Hid (Runs lt dk s n 0 n) ∧ Hid (SWK enc k (W.alloc (dataB g lb sf sb)) blk off dk wr)) (fun v4 v5 v6 _ => 2 * n + 40 - (intOf v4).toNat)
      case atStart => exact ⟨20, a, a + 20, d1, rfl, rfl, by congr 1 <;> omega, Nat.le_refl _, by omega, HP1, HR1, HK1.out⟩
      case round =>
        obtain ⟨s, a1, b1, d2, rfl, rfl, rfl, hs20, hs2, hP2, hR2, hK2⟩ := hrel
        by_cases hsn : s < n
        · go_wp2_with fail
          go_loopw [5, 6] (fun v5 v6 wr => ∃ (q a2 : Nat) (dk : Array α), v5 = .int .i64 a2 ∧ v6 = .int .i64 ((a2 : Int) + 2 * (s : Int)) ∧ Hid (a2 = q * (2 * s)) ∧ a2 ≤ n ∧ Hid (PermIn 0 n d dk) ∧ Hid (Runs lt dk (2 * s) n 0 (q * (2 * s))) ∧ Hid (Runs lt dk s n (q * (2 * s)) n) ∧ Hid (SWK enc k (W.alloc (dataB g lb sf sb)) blk off dk wr)) (fun v5 v6 _ => n + 20 - (intOf v5).toNat)
          case atStart => exact ⟨0, 0, d2, rfl, by congr 1 <;> omega, by show _ = _; omega, Nat.zero_le _, hP2, by show Runs _ _ _ _ _ _; rw [Nat.zero_mul]; exact Runs.start _ _ _ _ _, by show Runs _ _ _ _ _ _; rw [Nat.zero_mul]; exact hR2.out, hK2.out⟩
          case round =>
            obtain ⟨q2, a2, d3, rfl, rfl, hq2, han2, hP3, hR3, hR4, hK3⟩ := hrel
            obtain ⟨c0, c1⟩ := HCc.out d3 _ hK3.out
            have hds3 : d3.size = d.size := hP3.out.1
            have hdn3 : d3.size = n := hds3.trans hn
            by_cases hlt2 : a2 + 2 * s ≤ n
            · have sl : SortedIn lt a2 (a2 + s) d3 := by
                have := Runs.left hR4.out (by rw [← hq2.out]; omega)
                rw [← hq2.out, Nat.min_eq_left (by omega)] at this; exact this
              have sr : SortedIn lt (a2 + s) (a2 + 2 * s) d3 := by
                have := Runs.right hR4.out (by rw [← hq2.out]; omega)
                rw [← hq2.out, Nat.min_eq_left (by omega), show a2 + s + s = a2 + 2 * s by omega] at this; exact this
              have hc := symMerge_w HO.out _ a2 (a2 + s) (a2 + 2 * s) d3 _ (Nat.le_refl _) (by rw [hds3]; exact HE1.out.on hK3.out hds3) (hK3.out.holds HE1.out.hlt HH1.out hds3) (by omega) (by omega) (by omega) sl sr
              rw [show ((a2 + s : Nat) : Int) = (a2 : Int) + (s : Int) by omega, show ((a2 + 2 * s : Nat) : Int) = (a2 : Int) + 2 * (s : Int) by omega] at hc
              have HC3 := Lib.hid hc; clear hc sl sr
              go_wp2_with (go_at_call 109; go_must (refine HC3.out.mono ?_); rintro e w3 ⟨rfl, d4, hd4, hk4⟩; have HD4 := Lib.hid hd4; have HK4 := Lib.hid hk4; clear hd4 hk4)
              go_roundw
              case rel =>
                have hq3 := hq2.out
                have e1 : (q2 + 1) * (2 * s) = a2 + 2 * s := by rw [Nat.succ_mul, ← hq3]
                refine ⟨q2 + 1, a2 + 2 * s, d4, by congr 1 <;> omega, by congr 1 <;> omega, e1.symm, by omega, permIn_trans _ _ _ _ _ hP3.out (permIn_mono _ _ _ _ _ _ (Nat.zero_le _) (by omega) (by omega) HD4.out.1), ?_, ?_, swk_on hK3.out HE1.out.hlt HK4.out HD4.out.1.1⟩
                · refine Runs.ext (e := a2 + 2 * s) q2 (by omega) hR3.out (by rw [← hq3]; exact HD4.out.1) ?_ _ (by rw [e1, hq3]; exact Nat.le_refl _)
                  rw [← hq3, Nat.min_eq_left (by omega)]; exact HD4.out.2
                · show Runs _ _ _ _ _ _
                  rw [e1]
                  exact Runs.rest (a := a2) (by have := hR4.out; rw [← hq3] at this; exact this) HD4.out.1 (by omega)
              case measure => simp [intOf]; omega
            · by_cases hm : a2 + s < n
              · have sl : SortedIn lt a2 (a2 + s) d3 := by
                  have := Runs.left hR4.out (by rw [← hq2.out]; omega)
                  rw [← hq2.out, Nat.min_eq_left (by omega)] at this; exact this
                have sr : SortedIn lt (a2 + s) n d3 := by
                  have := Runs.right hR4.out (by rw [← hq2.out]; omega)
                  rw [← hq2.out, Nat.min_eq_right (by omega)] at this; exact this
                have hc := symMerge_w HO.out _ a2 (a2 + s) n d3 _ (Nat.le_refl _) (by rw [hds3]; exact HE1.out.on hK3.out hds3) (hK3.out.holds HE1.out.hlt HH1.out hds3) (by omega) (by omega) (by omega) sl sr
                rw [show ((a2 + s : Nat) : Int) = (a2 : Int) + (s : Int) by omega] at hc
                have HC3 := Lib.hid hc; clear hc sl sr
                go_wp2_with (go_at_call 109; go_must (refine HC3.out.mono ?_); rintro e w3 ⟨rfl, d4, hd4, hk4⟩; have HD4 := Lib.hid hd4; have HK4 := Lib.hid hk4; clear hd4 hk4)
                go_roundw
                case rel =>
                  have hq3 := hq2.out
                  refine ⟨2 * s, a2, a2 + 2 * s, d4, by congr 1 <;> omega, rfl, by congr 1 <;> omega, by omega, by omega, permIn_trans _ _ _ _ _ hP3.out (permIn_mono _ _ _ _ _ _ (Nat.zero_le _) (Nat.le_refl _) (by omega) HD4.out.1), ?_, swk_on hK3.out HE1.out.hlt HK4.out HD4.out.1.1⟩
                  refine Runs.ext (e := n) q2 (by omega) hR3.out (by rw [← hq3]; exact HD4.out.1) ?_ _ (by omega)
                  rw [← hq3, Nat.min_eq_right (by omega)]; exact HD4.out.2
                case measure => simp [intOf]; omega
              · go_wp2_with fail
                go_roundw
                case rel =>
                  have hq3 := hq2.out
                  refine ⟨2 * s, a2, a2 + 2 * s, d3, by congr 1 <;> omega, rfl, by congr 1 <;> omega, by omega, by omega, hP3, ?_, hK3.out⟩
                  refine Runs.ext (e := n) q2 (by omega) hR3.out (permIn_refl _ _ _) ?_ _ (by omega)
                  rw [← hq3, Nat.min_eq_right (by omega)]
                  by_cases h0 : a2 < n
                  · have := Runs.left hR4.out (by rw [← hq3]; exact h0)
                    rw [← hq3, Nat.min_eq_right (by omega)] at this; exact this
                  · exact sorted_none _ (by omega)
                case measure => simp [intOf]; omega
        · go_wp2_with fail
          go_end0
          refine ⟨rfl, d2, ⟨by rw [hn]; exact hP2.out, ?_⟩, swk_on HS1.out HB.out hK2.out hP2.out.1⟩
          rw [hn]
          by_cases h0 : 0 < n
          · have := hR2.out 0 (by omega) (by omega)
            rw [Nat.zero_mul, Nat.min_eq_right (by omega)] at this; exact this
          · exact sorted_none _ (by omega)
end
end Go.Proofs.YtbhildmalcfhiaaGreatDoor

namespace Go.Proofs.YtbhildmalcfhiaaGreatDoor
open Go.RowKit Go.Deep Go.Sort Go.Lib

section
variable {α : Type} [Inhabited α]

set_option maxHeartbeats 2000000 in
set_option maxRecDepth 100000 in
theorem sliceStable_sorted (t e : TypeId) (i ie : TypeInfo) (hi : Tryz.prog.info? t = some i) (hd : i.desc = .slice e) (hpk : Tryz.prog.packed t = false) (hie : Tryz.prog.info? e = some ie) (ke : Nat) (hke : ∀ w, (Extern.Rtype.kind e).run Tryz.prog w = .ok ke w)
    (enc : α → List Value) (k : Nat) (hk : ∀ x, (enc x).length = k) (hs1 : ie.size = k) (hagg : ∀ w, (isAgg e).run Tryz.prog w = .ok true w) (h1 : ∀ x, ∀ v ∈ enc x, v.oneCell' = true) (lt : α → α → Bool) (hO : SWO lt) (g : Nat) (lb : Array Value)
    (eg : ∀ args w, (callFunc g args).run Tryz.prog w = .ok (.enter g args) w) (blk off c : Nat) (d : Array α) (h2 : 2 ≤ d.size) (hsz : d.size ≤ 1099511627776)
    (f : Nat) (hf : Tryz.prog.funcs.findIdx? (·.name == "internal/reflectlite" ++ ".Swapper$" ++ toString (swapperK d.size ie ke)) = some f)
    (gS : Bool) (hx : ∀ args W, (callFunc f args).run Tryz.prog W = ((Extern.ReflectliteSwapper.swap gS args).run Tryz.prog W).andThen fun v w' => .ok (.value v) w')
    (w : World) (hless : LessG Tryz.prog g lb enc k lt blk off d.size w) (hH : HoldsK enc k w blk off d) (hblk : blk < w.heap.size) :
    Calls Tryz.prog 33 #[.iface t (.slice (some ⟨blk, off, none⟩) d.size c), .func (.func g) #[] lb] w fun e w' =>
      e = .returned (.tuple #[]) ∧ ∃ d' n os, PermIn 0 d.size d d' ∧ SortedIn lt 0 d.size d' ∧ w' = grow (putRowK enc k (Sort.ahead w n) blk off d') os := by
  refine Any.sort_SliceStable_of_stable Tryz.laysGt8 t e i ie hi hd hpk hie ke hke _ d.size c (by omega) f hf (.func g) #[] lb w _ ?_
  have hB : sliceBound Tryz.prog e ie ke (some ⟨blk, off, none⟩) d.size c = #[.slice (some ⟨blk, off, none⟩) d.size c, typeHandle Tryz.prog e] := by
    unfold sliceBound; rw [if_neg (swapperK_gt _ _ _ h2)]
  have hW : stableWorld Tryz.prog Tryz.laysGt8_ren t (some ⟨blk, off, none⟩) d.size c w = grow w #[.cells #[.slice (some ⟨blk, off, none⟩) d.size c] t, .cells #[.pointer (some ⟨Tryz.prog.globals.size, t, none⟩), .pointer (some ⟨w.heap.size, 0, none⟩), .int .u64 151] (Tryz.laysGt8_ren.t 36)] := by
    unfold stableWorld; rw [alloc_eq_grow, alloc_eq_grow, grow_grow]; rfl
  generalize (#[.cells #[.slice (some ⟨blk, off, none⟩) d.size c] t, .cells #[.pointer (some ⟨Tryz.prog.globals.size, t, none⟩), .pointer (some ⟨w.heap.size, 0, none⟩), .int .u64 151] (Tryz.laysGt8_ren.t 36)] : Array Obj) = os0 at hW
  rw [hB, hW]
  have hp := stable_w (k := k) (g := g) (lb := lb) (sf := f) (sb := #[.slice (some ⟨blk, off, none⟩) d.size c, typeHandle Tryz.prog e]) hO d (W := grow w os0)
    ⟨hk, eg, hless.grow hblk os0, swapSwapsK_of_literal gS f hx e ie hie enc k hk hs1 hagg h1 blk off d.size c, by rw [size_grow]; omega, by omega⟩ (holdsK_grow enc k w _ blk off d hblk hH) hsz
  refine hp.mono ?_
  rintro e w' ⟨rfl, d', ⟨hp1, hs⟩, n, os, rfl⟩
  exact ⟨rfl, d', n, os0 ++ os, hp1, hs, by unfold sortWorldK; rw [ahead_grow, putRowK_grow enc k (Sort.ahead w n) _ blk off _ hblk, grow_grow]⟩
end
end Go.Proofs.YtbhildmalcfhiaaGreatDoor
