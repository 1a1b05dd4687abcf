/-
  The lines of a written index, plainly: what both readers make of them.
-/
import Derived.Test.YtmcelgokchhpfaaGreatDoorSmallNum
import Derived.Lib.SplitLaws
import Derived.Lib.IndexBytes
namespace Go.Proofs.YtmcelgokchhpfaaGreatDoor
open Go.RowKit Go.Deep

/-- what lies before a byte, and from it on -/
def bef (c : UInt8) (l : List UInt8) : List UInt8 := l.takeWhile (· != c)
def aft (c : UInt8) (l : List UInt8) : List UInt8 := l.dropWhile (· != c)
theorem bef_cons_eq (c : UInt8) (l : List UInt8) : bef c (c :: l) = [] := by simp [bef]
theorem aft_cons_eq (c : UInt8) (l : List UInt8) : aft c (c :: l) = c :: l := by simp [aft]
theorem bef_cons_ne {b c : UInt8} (l : List UInt8) (h : b ≠ c) : bef c (b :: l) = b :: bef c l := by simp [bef, h]
theorem aft_cons_ne {b c : UInt8} (l : List UInt8) (h : b ≠ c) : aft c (b :: l) = aft c l := by simp [aft, h]
theorem bef_aft (c : UInt8) (l : List UInt8) : bef c l ++ aft c l = l := List.takeWhile_append_dropWhile
theorem aft_form (c : UInt8) : ∀ l : List UInt8, aft c l = [] ∨ ∃ r, aft c l = c :: r
  | [] => Or.inl rfl
  | b :: l => by
    by_cases h : b = c
    · subst h; exact Or.inr ⟨l, aft_cons_eq _ _⟩
    · rw [aft_cons_ne l h]; exact aft_form c l
theorem bef_len (c : UInt8) (l : List UInt8) : (bef c l).length + (aft c l).length = l.length := by
  rw [← List.length_append, bef_aft]
theorem ib_cases (c : UInt8) : ∀ l : List UInt8, (Lib.indexByte l c = -1 ∧ bef c l = l ∧ aft c l = []) ∨ ∃ k : Nat, Lib.indexByte l c = k ∧ k < l.length ∧ bef c l = l.take k ∧ aft c l = l.drop k ∧ aft c l ≠ []
  | [] => Or.inl ⟨rfl, rfl, rfl⟩
  | b :: l => by
    by_cases h : b = c
    · subst h
      exact Or.inr ⟨0, by simp [Lib.indexByte], by simp, by rw [bef_cons_eq]; rfl, by rw [aft_cons_eq]; rfl, by rw [aft_cons_eq]; simp⟩
    · have hb : (b == c) = false := by simpa using h
      rcases ib_cases c l with ⟨h1, h2, h3⟩ | ⟨k, h1, h2, h3, h4, h5⟩
      · exact Or.inl ⟨by rw [Lib.indexByte, hb, h1]; rfl, by rw [bef_cons_ne l h, h2], by rw [aft_cons_ne l h, h3]⟩
      · refine Or.inr ⟨k + 1, ?_, by simpa using h2, by rw [bef_cons_ne l h, h3]; rfl, by rw [aft_cons_ne l h, h4]; rfl, by rw [aft_cons_ne l h]; exact h5⟩
        rw [Lib.indexByte, hb, h1]
        have : ((k : Int) == -1) = false := by rw [beq_eq_false_iff_ne]; omega
        simp [this]

/-- a string cut at each instance of a byte -/
def splitC (c : UInt8) : List UInt8 → List (List UInt8)
  | [] => [[]]
  | b :: l => if b = c then [] :: splitC c l else match splitC c l with | [] => [[b]] | p :: r => (b :: p) :: r
theorem splitC_eq (c : UInt8) : ∀ l : List UInt8, splitC c l = bef c l :: (if aft c l = [] then [] else splitC c (aft c l).tail)
  | [] => rfl
  | b :: l => by
    by_cases h : b = c
    · subst h
      rw [splitC, if_pos rfl, bef_cons_eq, aft_cons_eq, if_neg (by simp)]; rfl
    · rw [splitC, if_neg h, splitC_eq c l, bef_cons_ne l h, aft_cons_ne l h]
theorem splitC_ne (c : UInt8) (l : List UInt8) : splitC c l ≠ [] := by rw [splitC_eq]; simp
theorem splitK_all (c : UInt8) : ∀ (k : Nat) (s : List UInt8), s.count c ≤ k → Lib.splitK [c] 0 k s = splitC c s
  | 0, s, h => by
    rw [Lib.splitK, splitC_eq]
    rcases ib_cases c s with ⟨_, h2, h3⟩ | ⟨k, _, hk, _, h4, h5⟩
    · rw [h2, if_pos h3]
    · exfalso
      rcases aft_form c s with h6 | ⟨r, h6⟩
      · exact h5 h6
      · have h7 := congrArg (List.count c) (bef_aft c s)
        rw [List.count_append, h6, List.count_cons_self] at h7
        omega
  | k + 1, s, h => by
    rw [Lib.splitK, splitC_eq, Lib.index_one]
    rcases ib_cases c s with ⟨h1, h2, h3⟩ | ⟨i, h1, hk, h3, h4, h5⟩
    · rw [h1, h2, if_pos h3]; rfl
    · have hne : ((i : Int) == -1) = false := by rw [beq_eq_false_iff_ne]; omega
      rw [h1, hne, if_neg (by simp), if_neg h5]
      simp only [Int.toNat_natCast, Nat.add_zero, List.length_cons, List.length_nil, Nat.zero_add]
      rw [← h3, show s.drop (i + 1) = (aft c s).tail by rw [h4, List.tail_drop]]
      congr 1
      refine splitK_all c k _ ?_
      rcases aft_form c s with h6 | ⟨r, h6⟩
      · exact absurd h6 h5
      · have h7 := congrArg (List.count c) (bef_aft c s)
        rw [List.count_append, h6, List.count_cons_self] at h7
        rw [h6, List.tail_cons]
        omega
/-- strings.Split at one byte -/
theorem split_map (c : UInt8) (s : ByteArray) : (Lib.splitB ⟨#[c]⟩ 0 (Lib.countB s ⟨#[c]⟩) s).map (·.data.toList) = splitC c s.data.toList := by
  rw [Lib.splitB_data]
  refine splitK_all c _ _ ?_
  show _ ≤ Lib.count s.data.toList [c]
  rw [Lib.count_one]
  exact Nat.le_refl _
/-- strings.SplitN at one byte, one piece after the other -/
theorem splitK_next (c : UInt8) (k : Nat) (s : List UInt8) : Lib.splitK [c] 0 (k + 1) s = if aft c s = [] then [s] else bef c s :: Lib.splitK [c] 0 k (aft c s).tail := by
  rw [Lib.splitK, Lib.index_one]
  rcases ib_cases c s with ⟨h1, h2, h3⟩ | ⟨i, h1, hk, h3, h4, h5⟩
  · rw [h1, if_pos h3]; rfl
  · have hne : ((i : Int) == -1) = false := by rw [beq_eq_false_iff_ne]; omega
    rw [h1, hne, if_neg (by simp), if_neg h5]
    simp only [Int.toNat_natCast, Nat.add_zero, List.length_cons, List.length_nil, Nat.zero_add]
    rw [← h3, show s.drop (i + 1) = (aft c s).tail by rw [h4, List.tail_drop]]

/-- the lines that are left of a text -/
def Left (t : List UInt8) (L : List (List UInt8)) : Prop := (t = [] ∧ L = []) ∨ ∃ u, t = u ++ [10] ∧ L = splitC 10 u
theorem bef_snoc (c : UInt8) (u : List UInt8) : bef c (u ++ [c]) = bef c u := by
  induction u with
  | nil => simp [bef]
  | cons b u ih =>
    by_cases h : b = c
    · subst h; rw [List.cons_append, bef_cons_eq, bef_cons_eq]
    · rw [List.cons_append, bef_cons_ne _ h, bef_cons_ne _ h, ih]
theorem aft_snoc (c : UInt8) (u : List UInt8) : aft c (u ++ [c]) = aft c u ++ [c] := by
  induction u with
  | nil => simp [aft]
  | cons b u ih =>
    by_cases h : b = c
    · subst h; rw [List.cons_append, aft_cons_eq, aft_cons_eq]; rfl
    · rw [List.cons_append, aft_cons_ne _ h, aft_cons_ne _ h, ih]
theorem Left.step {t : List UInt8} {L : List (List UInt8)} (h : Left t L) (ht : t ≠ []) : ∃ r, L = bef 10 t :: r ∧ Left (aft 10 t).tail r ∧ aft 10 t ≠ [] := by
  rcases h with ⟨h1, _⟩ | ⟨u, rfl, rfl⟩
  · exact absurd h1 ht
  · rw [bef_snoc, aft_snoc, splitC_eq]
    refine ⟨_, rfl, ?_, by simp⟩
    rcases aft_form 10 u with h6 | ⟨r, h6⟩
    · rw [h6, if_pos rfl]; exact Or.inl ⟨rfl, rfl⟩
    · rw [h6, if_neg (by simp)]
      exact Or.inr ⟨r, rfl, rfl⟩
theorem Left.done {L : List (List UInt8)} (h : Left [] L) : L = [] := by
  rcases h with ⟨_, h2⟩ | ⟨u, h1, _⟩
  · exact h2
  · simp at h1

def bs (l : List UInt8) : ByteArray := ⟨l.toArray⟩
theorem bs_list (l : List UInt8) : (bs l).data.toList = l := rfl
theorem bs_of (s : ByteArray) : bs s.data.toList = s := mk_toList s
theorem bs_size (l : List UInt8) : (bs l).size = l.length := by rw [← size_toList]; rfl

/-- what is behind doc -/
def docA (l : List UInt8) : List UInt8 := bef 32 l
def docR1 (l : List UInt8) : List UInt8 := (aft 32 l).tail
def docM (l : List UInt8) : List UInt8 := bef 32 (docR1 l)
def docZ (l : List UInt8) : List UInt8 := (aft 32 (docR1 l)).tail
def docOk (l : List UInt8) : Bool := !(docA l).isEmpty && !(aft 32 l).isEmpty && !(aft 32 (docR1 l)).isEmpty && numB (docM l)
def docD (l : List UInt8) : DocR := ⟨bs (docA l), bs (docZ l), ⟨#[]⟩⟩
/-- what is behind term -/
def pairA (q : List UInt8) : List UInt8 := bef 58 q
def pairZ (q : List UInt8) : List UInt8 := (aft 58 q).tail
def pairOk (q : List UInt8) : Bool := numB (pairA q) && numB (pairZ q)
def termOk (l : List UInt8) : Bool := !(bef 32 l).isEmpty && !(splitC 32 l).tail.isEmpty && (splitC 32 l).tail.all pairOk
def termD (l : List UInt8) : TermR := ⟨bs (bef 32 l), (splitC 32 l).tail.map (fun q => ((numV (pairA q) : Nat) : Int)), (splitC 32 l).tail.map (fun q => ((numV (pairZ q) : Nat) : Int))⟩

structure St where
  D : List DocR
  S : List Int
  T : List TermR
def docW0 : List UInt8 := [100, 111, 99, 32]
def termW0 : List UInt8 := [116, 101, 114, 109, 32]
def lineOk (T : List TermR) (l : List UInt8) : Bool := if Lib.hasPrefix l docW0 then T.isEmpty && docOk (l.drop 4) else if Lib.hasPrefix l termW0 then termOk (l.drop 5) else false
def lineS (s : St) (l : List UInt8) : St := if Lib.hasPrefix l docW0 then ⟨s.D ++ [docD (l.drop 4)], s.S ++ [((numV (docM (l.drop 4)) : Nat) : Int)], s.T⟩ else ⟨s.D, s.S, s.T ++ [termD (l.drop 5)]⟩
def okAll : St → List (List UInt8) → Bool
  | _, [] => true
  | s, l :: r => lineOk s.T l && okAll (lineS s l) r
def endS : St → List (List UInt8) → St
  | s, [] => s
  | s, l :: r => endS (lineS s l) r
def st0 : St := ⟨[], [], []⟩
/-- the lines of a text that ends so -/
def textL (l : List UInt8) : List (List UInt8) := if l = [] then [] else splitC 10 l.dropLast
def readE (l : List UInt8) : Int :=
  if 400000 < l.length then 4 else if !l.isEmpty && !Lib.hasSuffix l [10] then 8 else if okAll st0 (textL l) = false then 8 else idxE (endS st0 (textL l)).D (endS st0 (textL l)).S (endS st0 (textL l)).T
def readS (l : List UInt8) : St := if readE l = 0 then endS st0 (textL l) else st0
theorem textL_left {l : List UInt8} (h : l = [] ∨ Lib.hasSuffix l [10] = true) : Left l (textL l) := by
  by_cases hl : l = []
  · subst hl; exact Or.inl ⟨rfl, rfl⟩
  · refine Or.inr ⟨l.dropLast, ?_, by rw [textL, if_neg hl]⟩
    have h1 : Lib.hasSuffix l [10] = true := by rcases h with h | h; exact absurd h hl; exact h
    have h2 : l.getLast hl = 10 := by
      have h3 : [10] <:+ l := by simpa [Lib.hasSuffix] using h1
      obtain ⟨u, hu⟩ := h3
      subst hu
      simp
    rw [← h2]; exact (List.dropLast_concat_getLast hl).symm

end Go.Proofs.YtmcelgokchhpfaaGreatDoor
