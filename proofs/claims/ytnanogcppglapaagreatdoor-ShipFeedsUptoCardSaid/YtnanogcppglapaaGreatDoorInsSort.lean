/-
  An insertion sort by swaps, plainly.
-/
import Derived.Test.YtnanogcppglapaaGreatDoorBase
namespace Go.Proofs.YtnanogcppglapaaGreatDoor

/-- in the midst of an insertion: A and B are what is sorted, x goes down between them, C is to come -/
structure InsAt {α : Type} (r : α → α → Prop) (L0 A : List α) (x : α) (B C : List α) : Prop where
  perm : (A ++ x :: (B ++ C)).Perm L0
  srt : (A ++ B).Pairwise r
  lt : ∀ b ∈ B, r x b
theorem InsAt.start {α : Type} {r : α → α → Prop} {L0 S : List α} {x : α} {C : List α} (hp : (S ++ x :: C).Perm L0) (hs : S.Pairwise r) : InsAt r L0 S x [] C :=
  ⟨by simpa using hp, by simpa using hs, fun b hb => by cases hb⟩
theorem InsAt.down {α : Type} {r : α → α → Prop} {L0 A : List α} {y x : α} {B C : List α} (h : InsAt r L0 (A ++ [y]) x B C) (hxy : r x y) : InsAt r L0 A x (y :: B) C := by
  refine ⟨?_, by simpa using h.srt, fun b hb => ?_⟩
  · refine List.Perm.trans ?_ h.perm
    rw [List.append_assoc]
    exact List.Perm.append_left A (List.Perm.swap _ _ _)
  · rcases List.mem_cons.1 hb with rfl | hb
    · exact hxy
    · exact h.lt b hb
theorem InsAt.first {α : Type} {r : α → α → Prop} {L0 : List α} {x : α} {B C : List α} (h : InsAt r L0 [] x B C) : (x :: B).Pairwise r ∧ (x :: B ++ C).Perm L0 :=
  ⟨List.pairwise_cons.2 ⟨h.lt, by simpa using h.srt⟩, by simpa using h.perm⟩
theorem InsAt.stop {α : Type} {r : α → α → Prop} (tr : ∀ a b c, r a b → r b c → r a c) {L0 A : List α} {y x : α} {B C : List α} (h : InsAt r L0 (A ++ [y]) x B C) (hyx : r y x) : (A ++ [y] ++ x :: B).Pairwise r ∧ (A ++ [y] ++ x :: B ++ C).Perm L0 := by
  obtain ⟨h1, h2, h3⟩ := List.pairwise_append.1 h.srt
  obtain ⟨h4, _, h5⟩ := List.pairwise_append.1 h1
  refine ⟨List.pairwise_append.2 ⟨h1, List.pairwise_cons.2 ⟨h.lt, h2⟩, fun a ha b hb => ?_⟩, by simpa using h.perm⟩
  rcases List.mem_cons.1 hb with rfl | hb
  · rcases List.mem_append.1 ha with ha | ha
    · exact tr _ _ _ (h5 a ha y (by simp)) hyx
    · simp only [List.mem_singleton] at ha
      subst ha
      exact hyx
  · exact h3 a ha b hb

end Go.Proofs.YtnanogcppglapaaGreatDoor
