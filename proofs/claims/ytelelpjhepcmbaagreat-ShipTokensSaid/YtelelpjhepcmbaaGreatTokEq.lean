/-
  Tokens compared: slices.Equal of attributes; mastlaw1.sameTokens, where both lists hold the same.
-/
import Derived.Test.YtelelpjhepcmbaaGreatTokRAll
namespace Go.Proofs.YtelelpjhepcmbaaGreat
open Go.RowKit Go.Deep

theorem own_rd {w : World} {B K : Nat} {e : TypeId} {v : Value} {n : Nat} {xs : List Value} (h : w.ownsRow B e K v n xs) : ∃ (A : Option Addr) (c b : Nat), v = .slice A n c ∧ n ≤ c ∧ c ≤ maxLen ∧ (0 < n → A = some ⟨b, 0, none⟩ ∧ b < w.heap.size) ∧ ∀ j x, xs[j]? = some x → w.cell? ⟨b, j, none⟩ = some x := by
  obtain ⟨hl, h2⟩ := h
  rcases h2 with ⟨rfl, rfl⟩ | ⟨g, cap, cur, rfl, hB, hg, hnc, hm, hsz, htake⟩
  · have : xs = [] := List.eq_nil_of_length_eq_zero (by omega)
    subst this
    exact ⟨none, 0, 0, rfl, Nat.le_refl _, by simp [maxLen], fun h => absurd h (by omega), fun i x hx => by simp at hx⟩
  · refine ⟨some ⟨g, 0, none⟩, cap, g, rfl, by omega, hm, fun _ => ⟨rfl, (Array.getElem?_eq_some_iff.1 hg).1⟩, fun i x hx => ?_⟩
    rw [cell_of_row w g i cur e (0, 0) hg]
    rw [← htake, List.getElem?_take] at hx
    split at hx
    · simpa using hx
    · cases hx
theorem flatN {α : Type} (K : Nat) (f : α → List Value) (hf : ∀ a, (f a).length = K) : ∀ (l : List α) (i : Nat) (a : α), l[i]? = some a → ∀ j, j < K → (l.flatMap f)[i * K + j]? = (f a)[j]?
  | [], i, a, h, _, _ => by simp at h
  | b :: r, 0, a, h, j, hj => by
    simp at h
    subst h
    rw [List.flatMap_cons, List.getElem?_append_left (by rw [hf]; omega)]
    simp
  | b :: r, i + 1, a, h, j, hj => by
    rw [List.flatMap_cons, List.getElem?_append_right (by rw [hf, Nat.add_mul]; omega), hf, show (i + 1) * K + j - K = i * K + j by rw [Nat.add_mul]; omega]
    exact flatN K f hf r i a (by simpa using h) j hj
def AttsAt (w : World) (v : Value) (D : List AttrR) : Prop := ∃ (A : Option Addr) (c b : Nat), v = .slice A D.length c ∧ D.length ≤ c ∧ c ≤ maxLen ∧ (D ≠ [] → A = some ⟨b, 0, none⟩) ∧ ∀ i a, D[i]? = some a → w.cell? ⟨b, i * 2, none⟩ = some (.string a.name) ∧ w.cell? ⟨b, i * 2 + 1, none⟩ = some (.string a.value)
theorem AttsAt.of_own {w : World} {B : Nat} {v : Value} {D : List AttrR} (h : w.ownsRow B 42 2 v D.length (attCells D)) : AttsAt w v D := by
  obtain ⟨A, c, b, h1, h2, h3, h4, h5⟩ := own_rd h
  refine ⟨A, c, b, h1, h2, h3, fun hne => (h4 (by cases D; exact absurd rfl hne; simp)).1, fun i a ha => ?_⟩
  have k := flatN 2 (fun a : AttrR => [Value.string a.name, .string a.value]) (fun _ => rfl) D i a ha
  exact ⟨h5 _ _ (k 0 (by omega)), h5 _ _ (k 1 (by omega))⟩
theorem AttsAt.keep {w w' : World} {v : Value} {D : List AttrR} (h : AttsAt w v D) (k : Keeps w w') : AttsAt w' v D := by
  obtain ⟨A, c, b, h1, h2, h3, h4, h5⟩ := h
  exact ⟨A, c, b, h1, h2, h3, h4, fun i a ha => ⟨k _ _ (h5 i a ha).1, k _ _ (h5 i a ha).2⟩⟩

set_option maxRecDepth 100000 in
set_option maxHeartbeats 2000000 in
theorem equalAtts_same (l : List AttrR) (v1 v2 : Value) (w : World) (h1 : AttsAt w v1 l) (h2 : AttsAt w v2 l) :
    Calls Tryz.prog 13 #[v1, v2] w fun e w' => e = .returned (.bool true) ∧ Below w.heap.size w w' := by
  obtain ⟨A1, c1, b1, rfl, hl1, hc1, hA1, hcell1⟩ := h1
  obtain ⟨A2, c2, b2, rfl, hl2, hc2, hA2, hcell2⟩ := h2
  have HC1 := Lib.hid hcell1; have HC2 := Lib.hid hcell2
  have HA1 := Lib.hid hA1; have HA2 := Lib.hid hA2
  clear hcell1 hcell2 hA1 hA2
  unfold maxLen at hc1
  go_enter Tryz.func13, Tryz.ntmps13
  go_wp2_with fail
  go_loopw [13] (fun i wr => ∃ k q : Nat, k ≤ l.length ∧ i = .int .i64 k ∧ wr = w.drewN q) (fun i _ => l.length - (intOf i).toNat)
  case atStart => exact ⟨0, 0, Nat.zero_le _, rfl, rfl⟩
  case round =>
    obtain ⟨k, q, hk, rfl, rfl⟩ := hrel
    by_cases hlt : k < l.length
    · have hne : l ≠ [] := by intro h; rw [h] at hlt; simp at hlt
      obtain rfl := HA1.out hne
      obtain rfl := HA2.out hne
      obtain ⟨x, hx⟩ : ∃ x, l[k]? = some x := ⟨_, List.getElem?_eq_getElem hlt⟩
      obtain ⟨p0, p1⟩ := HC1.out k x hx
      obtain ⟨q0, q1⟩ := HC2.out k x hx
      clear hx
      go_wp2_with fail
      go_quiet (fail)
      go_wp2_with fail
      go_roundw
      case rel => exact ⟨k + 1, q + nq, by omega, by go_num, rfl⟩
      case measure => simp [intOf]; omega
    · go_wp2_with fail
      go_ret
      exact ⟨rfl, Below.drewN' (Below.refl _ _) _⟩

end Go.Proofs.YtelelpjhepcmbaaGreat
