/-
  Arguments of a shortcode: their faults, in plain words; how they lie in memory.
-/
import Derived.Test.YtgbmlpidaeefoaaLinePlain
import Derived.Test.YtgbmlpidaeefoaaOwn
namespace Go.Proofs.Ytgbmlpidaeefoaa
open Go.RowKit

abbrev ArgL := List UInt8 × List UInt8

/-- two arguments have one name -/
def TwiceP (l : List ArgL) : Prop := ∃ (i j : Nat) (a b : ArgL), j < i ∧ l[i]? = some a ∧ l[j]? = some b ∧ a.1 ≠ [] ∧ a.1 = b.1
/-- an argument without a name stands behind one with a name -/
def OrderP (l : List ArgL) : Prop := ∃ (i : Nat) (a b : ArgL), l[i + 1]? = some a ∧ l[i]? = some b ∧ a.1 = [] ∧ b.1 ≠ []

open Classical in
/-- what is wrong with arguments, but for their number -/
noncomputable def argsE (l : List ArgL) : Int := if TwiceP l then 6 else if OrderP l then 5 else 0

theorem argsE_twice {l : List ArgL} (h : TwiceP l) : argsE l = 6 := by unfold argsE; rw [if_pos h]
theorem argsE_order {l : List ArgL} (h : ¬ TwiceP l) (h2 : OrderP l) : argsE l = 5 := by unfold argsE; rw [if_neg h, if_pos h2]
theorem argsE_ok {l : List ArgL} (h : ¬ TwiceP l) (h2 : ¬ OrderP l) : argsE l = 0 := by unfold argsE; rw [if_neg h, if_neg h2]

/-- arguments as cells -/
def argCells : List ArgL → List Value
  | [] => []
  | a :: r => .string ⟨a.1.toArray⟩ :: .string ⟨a.2.toArray⟩ :: argCells r

theorem argCells_len : ∀ l, (argCells l).length = l.length * 2
  | [] => rfl
  | a :: r => by simp only [argCells, List.length_cons, argCells_len r]; omega
theorem argCells_append : ∀ a b, argCells (a ++ b) = argCells a ++ argCells b
  | [], b => rfl
  | a :: r, b => by simp only [argCells, List.cons_append, argCells_append r b]
theorem argCells_get : ∀ (l : List ArgL) (i : Nat) (a : ArgL), l[i]? = some a → (argCells l)[i * 2]? = some (.string ⟨a.1.toArray⟩) ∧ (argCells l)[i * 2 + 1]? = some (.string ⟨a.2.toArray⟩)
  | [], i, a, h => by simp at h
  | x :: r, 0, a, h => by simp at h; subst h; exact ⟨rfl, rfl⟩
  | x :: r, i + 1, a, h => by
    obtain ⟨h1, h2⟩ := argCells_get r i a (by simpa using h)
    constructor
    · rw [show (i + 1) * 2 = i * 2 + 2 by omega]; simpa [argCells] using h1
    · rw [show (i + 1) * 2 + 1 = (i * 2 + 1) + 2 by omega]; simpa [argCells] using h2
theorem argCells_one (l : List ArgL) : ∀ u ∈ argCells l, u.oneCell' = true := by
  induction l with
  | nil => intro u h; cases h
  | cons a r ih =>
    intro u hu
    simp only [argCells, List.mem_cons] at hu
    rcases hu with rfl | rfl | hu
    · rfl
    · rfl
    · exact ih u hu

/-- arguments in memory -/
def ArgsAt (w : World) (v : Value) (l : List ArgL) : Prop :=
  ∃ (A : Option Addr) (c b o : Nat), v = .slice A l.length c ∧ l.length ≤ c ∧ c ≤ maxLen ∧ (l ≠ [] → A = some ⟨b, o, none⟩) ∧
    ∀ i a, l[i]? = some a → w.cell? ⟨b, o + i * 2, none⟩ = some (.string ⟨a.1.toArray⟩) ∧ w.cell? ⟨b, o + i * 2 + 1, none⟩ = some (.string ⟨a.2.toArray⟩)

theorem ArgsAt.keep {w w' : World} {v : Value} {l : List ArgL} (h : ArgsAt w v l) (k : Keeps w w') : ArgsAt w' v l := by
  obtain ⟨A, c, b, o, h1, h2, h3, h4, h5⟩ := h
  exact ⟨A, c, b, o, h1, h2, h3, h4, fun i a ha => ⟨k _ _ (h5 i a ha).1, k _ _ (h5 i a ha).2⟩⟩

theorem ArgsAt.of_own {w : World} {B : Nat} {e : TypeId} {v : Value} {n : Nat} {l : List ArgL} (h : w.ownsRow B e 2 v n (argCells l)) : ArgsAt w v l := by
  have hl := h.1
  rw [argCells_len] at hl
  have hn : n = l.length := by omega
  subst hn
  rcases h.2 with ⟨rfl, h0⟩ | ⟨g, cap, cur, rfl, hB, hg, hnc, hm, hsz, htake⟩
  · have : l = [] := List.eq_nil_of_length_eq_zero h0
    subst this
    exact ⟨none, 0, 0, 0, rfl, Nat.le_refl _, by simp [maxLen], fun h => absurd rfl h, fun i a ha => by simp at ha⟩
  · refine ⟨some ⟨g, 0, none⟩, cap, g, 0, rfl, hnc, hm, fun _ => rfl, fun i a ha => ?_⟩
    have hi : i < l.length := (List.getElem?_eq_some_iff.1 ha).1
    obtain ⟨g1, g2⟩ := argCells_get l i a ha
    rw [Nat.zero_add]
    exact ⟨by rw [h.cellAt (i * 2) (by omega), g1], by rw [h.cellAt (i * 2 + 1) (by omega), g2]⟩

end Go.Proofs.Ytgbmlpidaeefoaa
