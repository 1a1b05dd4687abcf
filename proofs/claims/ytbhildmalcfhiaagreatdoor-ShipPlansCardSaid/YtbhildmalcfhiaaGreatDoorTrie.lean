/-
  The trie of a generic replacer of five names, as it lies in memory; its lookup.
-/
import Derived.Test.YtbhildmalcfhiaaGreatDoorUnRef
namespace Go.Proofs.YtbhildmalcfhiaaGreatDoor
open Go.RowKit Go.Deep

/-- the second byte of each name, its rest, its sign, its rank -/
def nameC : Nat → UInt8
  | 0 => 97 | 1 => 108 | 2 => 103 | 3 => 113 | _ => 35
def nameP : Nat → ByteArray
  | 0 => ⟨#[109, 112, 59]⟩ | 1 => ⟨#[116, 59]⟩ | 2 => ⟨#[116, 59]⟩ | 3 => ⟨#[117, 111, 116, 59]⟩ | _ => ⟨#[51, 57, 59]⟩
def nameV : Nat → ByteArray
  | 0 => ⟨#[38]⟩ | 1 => ⟨#[60]⟩ | 2 => ⟨#[62]⟩ | 3 => ⟨#[34]⟩ | _ => ⟨#[39]⟩
def nameR : Nat → Int
  | 0 => 10 | 1 => 8 | 2 => 6 | 3 => 4 | _ => 2
/-- the number of a byte in the tables -/
def mapU (c : UInt8) : Nat :=
  if c = 35 then 0 else if c = 38 then 1 else if c = 51 then 2 else if c = 57 then 3 else if c = 59 then 4 else if c = 97 then 5 else if c = 103 then 6 else if c = 108 then 7 else if c = 109 then 8 else if c = 111 then 9 else if c = 112 then 10 else if c = 113 then 11 else if c = 116 then 12 else if c = 117 then 13 else 14
def kidU (c : UInt8) : Option Nat := if c = 97 then some 0 else if c = 108 then some 1 else if c = 103 then some 2 else if c = 113 then some 3 else if c = 35 then some 4 else none
theorem mapU_le (c : UInt8) : mapU c ≤ 14 := by
  unfold mapU
  by_cases h35 : c = 35
  · rw [if_pos h35]; omega
  rw [if_neg h35]
  by_cases h38 : c = 38
  · rw [if_pos h38]; omega
  rw [if_neg h38]
  by_cases h51 : c = 51
  · rw [if_pos h51]; omega
  rw [if_neg h51]
  by_cases h57 : c = 57
  · rw [if_pos h57]; omega
  rw [if_neg h57]
  by_cases h59 : c = 59
  · rw [if_pos h59]; omega
  rw [if_neg h59]
  by_cases h97 : c = 97
  · rw [if_pos h97]; omega
  rw [if_neg h97]
  by_cases h103 : c = 103
  · rw [if_pos h103]; omega
  rw [if_neg h103]
  by_cases h108 : c = 108
  · rw [if_pos h108]; omega
  rw [if_neg h108]
  by_cases h109 : c = 109
  · rw [if_pos h109]; omega
  rw [if_neg h109]
  by_cases h111 : c = 111
  · rw [if_pos h111]; omega
  rw [if_neg h111]
  by_cases h112 : c = 112
  · rw [if_pos h112]; omega
  rw [if_neg h112]
  by_cases h113 : c = 113
  · rw [if_pos h113]; omega
  rw [if_neg h113]
  by_cases h116 : c = 116
  · rw [if_pos h116]; omega
  rw [if_neg h116]
  by_cases h117 : c = 117
  · rw [if_pos h117]; omega
  rw [if_neg h117]
  exact Nat.le_refl _
theorem kidU_map {c : UInt8} {j : Nat} (h : kidU c = some j) : j < 5 ∧ nameC j = c ∧ mapU c < 14 := by
  unfold kidU at h
  split at h
  · cases h; rename_i e; subst e; decide
  split at h
  · cases h; rename_i e; subst e; decide
  split at h
  · cases h; rename_i e; subst e; decide
  split at h
  · cases h; rename_i e; subst e; decide
  split at h
  · cases h; rename_i e; subst e; decide
  · cases h

/-- the trie -/
structure TrieAt (w : World) (b tb na ta : Nat) (nd lf : Nat → Nat) : Prop where
  r0 : w.cell? ⟨b, 0, none⟩ = some (.string ⟨#[]⟩)
  r1 : w.cell? ⟨b, 1, none⟩ = some (.int .i64 0)
  r2 : w.cell? ⟨b, 2, none⟩ = some (.string ⟨#[]⟩)
  r3 : w.cell? ⟨b, 3, none⟩ = some (.pointer none)
  r4 : w.cell? ⟨b, 4, none⟩ = some (.slice (some ⟨tb, 0, none⟩) 14 14)
  r5 : w.cell? ⟨b, 5, none⟩ = some (.int .i64 14)
  map : ∀ c : UInt8, w.cell? ⟨b, 6 + c.toNat, none⟩ = some (.int .u8 (mapU c))
  tab : ∀ i, i < 14 → w.cell? ⟨tb, i, none⟩ = some (.pointer (if i = 1 then some ⟨na, 0, none⟩ else none))
  a0 : w.cell? ⟨na, 0, none⟩ = some (.string ⟨#[]⟩)
  a1 : w.cell? ⟨na, 1, none⟩ = some (.int .i64 0)
  a2 : w.cell? ⟨na, 2, none⟩ = some (.string ⟨#[]⟩)
  a3 : w.cell? ⟨na, 3, none⟩ = some (.pointer none)
  a4 : w.cell? ⟨na, 4, none⟩ = some (.slice (some ⟨ta, 0, none⟩) 14 14)
  kid : ∀ c : UInt8, mapU c < 14 → w.cell? ⟨ta, mapU c, none⟩ = some (.pointer ((kidU c).map fun j => ⟨nd j, 0, none⟩))
  n0 : ∀ j, j < 5 → w.cell? ⟨nd j, 0, none⟩ = some (.string ⟨#[]⟩)
  n1 : ∀ j, j < 5 → w.cell? ⟨nd j, 1, none⟩ = some (.int .i64 0)
  n2 : ∀ j, j < 5 → w.cell? ⟨nd j, 2, none⟩ = some (.string (nameP j))
  n3 : ∀ j, j < 5 → w.cell? ⟨nd j, 3, none⟩ = some (.pointer (some ⟨lf j, 0, none⟩))
  n4 : ∀ j, j < 5 → w.cell? ⟨nd j, 4, none⟩ = some (.slice none 0 0)
  l0 : ∀ j, j < 5 → w.cell? ⟨lf j, 0, none⟩ = some (.string (nameV j))
  l1 : ∀ j, j < 5 → w.cell? ⟨lf j, 1, none⟩ = some (.int .i64 (nameR j))
  l2 : ∀ j, j < 5 → w.cell? ⟨lf j, 2, none⟩ = some (.string ⟨#[]⟩)
  l3 : ∀ j, j < 5 → w.cell? ⟨lf j, 3, none⟩ = some (.pointer none)
  l4 : ∀ j, j < 5 → w.cell? ⟨lf j, 4, none⟩ = some (.slice none 0 0)
theorem TrieAt.keep {w w' : World} {b tb na ta : Nat} {nd lf : Nat → Nat} (h : TrieAt w b tb na ta nd lf) (k : Keeps w w') : TrieAt w' b tb na ta nd lf :=
  ⟨k _ _ h.r0, k _ _ h.r1, k _ _ h.r2, k _ _ h.r3, k _ _ h.r4, k _ _ h.r5, fun c => k _ _ (h.map c), fun i hi => k _ _ (h.tab i hi), k _ _ h.a0, k _ _ h.a1, k _ _ h.a2, k _ _ h.a3, k _ _ h.a4, fun c hc => k _ _ (h.kid c hc),
   fun j hj => k _ _ (h.n0 j hj), fun j hj => k _ _ (h.n1 j hj), fun j hj => k _ _ (h.n2 j hj), fun j hj => k _ _ (h.n3 j hj), fun j hj => k _ _ (h.n4 j hj), fun j hj => k _ _ (h.l0 j hj), fun j hj => k _ _ (h.l1 j hj), fun j hj => k _ _ (h.l2 j hj), fun j hj => k _ _ (h.l3 j hj), fun j hj => k _ _ (h.l4 j hj)⟩

/-- what the lookup finds -/
def lookU (y : List UInt8) : List UInt8 × Nat × Bool :=
  match y with
  | 38 :: c :: r => match kidU c with
    | some j => if Lib.hasPrefix r (nameP j).data.toList = true then ((nameV j).data.toList, 2 + (nameP j).size, true) else ([], 0, false)
    | none => ([], 0, false)
  | _ => ([], 0, false)
theorem prefix_cons (a b : UInt8) (l p : List UInt8) : Lib.hasPrefix (a :: l) (b :: p) = (b == a && Lib.hasPrefix l p) := rfl
/-- the lookup and the reference's step agree -/
theorem look_step {y : List UInt8} (h : y.head? = some 38) : stepU y = if (lookU y).2.2 = true then ((lookU y).1, (lookU y).2.1) else ([38], 1) := by
  cases y with
  | nil => cases h
  | cons a r =>
    have ha : a = 38 := by
      have h9 : some a = some 38 := h
      exact Option.some.inj h9
    subst ha
    cases r with
    | nil => decide
    | cons c r =>
      have key : stepU (38 :: c :: r) = (match kidU c with
          | some j => if Lib.hasPrefix r (nameP j).data.toList = true then ((nameV j).data.toList, 2 + (nameP j).size) else ([38], 1)
          | none => ([38], 1)) := by
        unfold stepU
        simp only [tryU, pairsU, List.getElem?_cons_zero, List.getElem?_cons_succ]
        simp only [prefix_cons]
        unfold kidU
        by_cases h1 : c = 97
        · subst h1; simp [nameP, nameV]; rfl
        by_cases h2 : c = 108
        · subst h2; simp [nameP, nameV]; rfl
        by_cases h3 : c = 103
        · subst h3; simp [nameP, nameV]; rfl
        by_cases h4 : c = 113
        · subst h4; simp [nameP, nameV]; rfl
        by_cases h5 : c = 35
        · subst h5; simp [nameP, nameV]; rfl
        have e1 : ((97 : UInt8) == c) = false := by rw [beq_eq_false_iff_ne]; exact fun e => h1 e.symm
        have e2 : ((108 : UInt8) == c) = false := by rw [beq_eq_false_iff_ne]; exact fun e => h2 e.symm
        have e3 : ((103 : UInt8) == c) = false := by rw [beq_eq_false_iff_ne]; exact fun e => h3 e.symm
        have e4 : ((113 : UInt8) == c) = false := by rw [beq_eq_false_iff_ne]; exact fun e => h4 e.symm
        have e5 : ((35 : UInt8) == c) = false := by rw [beq_eq_false_iff_ne]; exact fun e => h5 e.symm
        simp [h1, h2, h3, h4, h5, e1, e2, e3, e4, e5]
      rw [key]
      simp only [lookU]
      cases kidU c with
      | none => rfl
      | some j =>
        by_cases hh : Lib.hasPrefix r (nameP j).data.toList = true
        · simp [hh]
        · simp [hh]

end Go.Proofs.YtbhildmalcfhiaaGreatDoor
