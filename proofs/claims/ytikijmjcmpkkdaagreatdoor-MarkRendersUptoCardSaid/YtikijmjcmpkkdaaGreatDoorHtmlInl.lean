/-
  The writer of HTML: inlines.
-/
import Derived.Test.YtikijmjcmpkkdaaGreatDoorEscPlain
import Derived.Test.YtikijmjcmpkkdaaGreatDoorMScheme
import Derived.Test.YtikijmjcmpkkdaaGreatDoorIdsPlain
import Derived.Lib.ItoaLen
import Derived.Test.YtikijmjcmpkkdaaGreatDoorBuilderK
import Derived.Test.YtikijmjcmpkkdaaGreatDoorEqualStrs
import Derived.Test.YtikijmjcmpkkdaaGreatDoorEscape
import Derived.BigGuardPart
import Derived.Test.YtikijmjcmpkkdaaGreatDoorCheck7
import Derived.RegionTactic
import Derived.Deep.DeepMust
namespace Go.Proofs.YtikijmjcmpkkdaaGreatDoor
open Go.RowKit Go.Deep

def hBr : List UInt8 := [60, 98, 114, 62, 10]
def hEm1 : List UInt8 := [60, 101, 109, 62]
def hEm2 : List UInt8 := [60, 47, 101, 109, 62]
def hSt1 : List UInt8 := [60, 115, 116, 114, 111, 110, 103, 62]
def hSt2 : List UInt8 := [60, 47, 115, 116, 114, 111, 110, 103, 62]
def hCo1 : List UInt8 := [60, 99, 111, 100, 101, 62]
def hCo2 : List UInt8 := [60, 47, 99, 111, 100, 101, 62]
def hA1 : List UInt8 := [60, 97, 32, 104, 114, 101, 102, 61, 34]
def hQ : List UInt8 := [34]
def hA2 : List UInt8 := [60, 47, 97, 62]
def hI1 : List UInt8 := [60, 105, 109, 103, 32, 115, 114, 99, 61, 34]
def hI2 : List UInt8 := [34, 32, 97, 108, 116, 61, 34]
def hT1 : List UInt8 := [32, 116, 105, 116, 108, 101, 61, 34]
def hGt : List UInt8 := [62]
def hLt : List UInt8 := [60]
def hLs : List UInt8 := [60, 47]
def hP1 : List UInt8 := [60, 112, 62]
def hP2 : List UInt8 := [60, 47, 112, 62]
def hPre1 : List UInt8 := [60, 112, 114, 101, 62, 60, 99, 111, 100, 101]
def hCls : List UInt8 := [32, 99, 108, 97, 115, 115, 61, 34, 108, 97, 110, 103, 117, 97, 103, 101, 45]
def hPre2 : List UInt8 := [60, 47, 99, 111, 100, 101, 62, 60, 47, 112, 114, 101, 62]
def hBq1 : List UInt8 := [60, 98, 108, 111, 99, 107, 113, 117, 111, 116, 101, 62, 10]
def hBq2 : List UInt8 := [60, 47, 98, 108, 111, 99, 107, 113, 117, 111, 116, 101, 62]
def hH1 : List UInt8 := [60, 104]
def hId : List UInt8 := [32, 105, 100, 61, 34]
def hQg : List UInt8 := [34, 62]
def hH2 : List UInt8 := [60, 47, 104]
def hUl1 : List UInt8 := [60, 117, 108, 62, 10]
def hOl1 : List UInt8 := [60, 111, 108, 62, 10]
def hOs : List UInt8 := [60, 111, 108, 32, 115, 116, 97, 114, 116, 61, 34]
def hQgn : List UInt8 := [34, 62, 10]
def hUl : List UInt8 := [117, 108]
def hOl : List UInt8 := [111, 108]
def hLi1 : List UInt8 := [60, 108, 105, 62, 10]
def hLi2 : List UInt8 := [60, 47, 108, 105, 62, 10]
def hHr : List UInt8 := [60, 104, 114, 62]
def hTb1 : List UInt8 := [60, 116, 97, 98, 108, 101, 62, 10]
def hTb2 : List UInt8 := [60, 47, 116, 97, 98, 108, 101, 62]
def hTr1 : List UInt8 := [60, 116, 114, 62]
def hTr2 : List UInt8 := [60, 47, 116, 114, 62, 10]
def hTd : List UInt8 := [116, 100]
def hTh : List UInt8 := [116, 104]
def hNl : List UInt8 := [10]

/-- an address whose scheme is permitted, or # -/
def destH (d : List UInt8) : List UInt8 := if badB d = true then [35] else escL d
def titlH (t : List UInt8) : List UInt8 := if t = [] then [] else hT1 ++ escL t ++ hQ
/-- an inline; ks: what its Kids are -/
def inlN (k : Int) (t d ti ks : List UInt8) : List UInt8 :=
  if k = 11 then escL t else if k = 12 then hNl else if k = 13 then hBr else if k = 14 then hEm1 ++ ks ++ hEm2 else if k = 15 then hSt1 ++ ks ++ hSt2 else if k = 16 then hCo1 ++ escL t ++ hCo2
  else if k = 17 then hA1 ++ destH d ++ hQ ++ titlH ti ++ hGt ++ ks ++ hA2 else if k = 18 then hI1 ++ destH d ++ hI2 ++ escL t ++ hQ ++ titlH ti ++ hGt else []
def inlL : List Node → List UInt8
  | [] => []
  | .mk k _ t d ti ks :: r => inlN k t.data.toList d.data.toList ti.data.toList (inlL ks) ++ inlL r
def inl1 (n : Node) : List UInt8 := inlN n.kind n.text.data.toList n.dest.data.toList n.title.data.toList (inlL n.kids)
theorem inlL_nil : inlL [] = [] := by rw [inlL]
theorem inlL_cons (n : Node) (r : List Node) : inlL (n :: r) = inl1 n ++ inlL r := by cases n; rw [inlL]; rfl
theorem inlL_append (a b : List Node) : inlL (a ++ b) = inlL a ++ inlL b := by
  induction a with
  | nil => rw [inlL_nil, List.nil_append, List.nil_append]
  | cons n r ih => rw [List.cons_append, inlL_cons, inlL_cons, ih, List.append_assoc]
theorem inlL_take {l : List Node} {k : Nat} {n : Node} (h : l[k]? = some n) : inlL (l.take (k + 1)) = inlL (l.take k) ++ inl1 n := by
  obtain ⟨hk, rfl⟩ := List.getElem?_eq_some_iff.1 h
  rw [List.take_succ_eq_append_getElem hk, inlL_append, inlL_cons, inlL_nil, List.append_nil]

/-- a cell of a table -/
def cellH (nm : List UInt8) (n : Node) : List UInt8 := hLt ++ nm ++ hGt ++ inlL n.kids ++ hLs ++ nm ++ hGt
def cellsH (nm : List UInt8) (l : List Node) : List UInt8 := l.flatMap (cellH nm)
theorem cellsH_take {nm : List UInt8} {l : List Node} {k : Nat} {n : Node} (h : l[k]? = some n) : cellsH nm (l.take (k + 1)) = cellsH nm (l.take k) ++ cellH nm n := by
  obtain ⟨hk, rfl⟩ := List.getElem?_eq_some_iff.1 h
  show (l.take (k + 1)).flatMap (cellH nm) = (l.take k).flatMap (cellH nm) ++ _
  rw [List.take_succ_eq_append_getElem hk, List.flatMap_append, List.flatMap_singleton]
def tdH (i : Nat) : List UInt8 := if i = 0 then hTh else hTd
/-- what follows the dots of a fence -/
def cutI : List UInt8 → List UInt8
  | [] => []
  | c :: r => if c = 32 ∨ c = 9 then [] else c :: cutI r
def infoH (d : List UInt8) : List UInt8 := if d = [] then hPre1 ++ hGt else hPre1 ++ (hCls ++ escL (cutI d) ++ hQ) ++ hGt
def lvB (lv : Int) : List UInt8 := Lib.itoa lv
def olH (lv : Int) : List UInt8 := if lv < 0 then hUl1 else if lv = 1 then hOl1 else hOs ++ lvB lv ++ hQgn
def lnH (lv : Int) : List UInt8 := if lv < 0 then hUl else hOl
def headId (ids : List (List UInt8)) : List UInt8 := ids.headD []
/-- a block without the line feed behind it; bk: what its Kids are -/
def blkC (k lv : Int) (t d : List UInt8) (ids : List (List UInt8)) (ks : List Node) (bk : List UInt8) : List UInt8 :=
  if k = 1 then hH1 ++ lvB lv ++ hId ++ escL (headId ids) ++ hQg ++ inlL ks ++ hH2 ++ lvB lv ++ hGt
  else if k = 2 then hP1 ++ inlL ks ++ hP2 else if k = 3 then infoH d ++ escL t ++ hPre2 else if k = 4 then hBq1 ++ bk ++ hBq2
  else if k = 5 then olH lv ++ bk ++ hLs ++ lnH lv ++ hGt else if k = 7 then hHr else hTb1 ++ bk ++ hTb2
/-- a block, an item, a row -/
def blkN (i : Nat) (k lv : Int) (t d : List UInt8) (ids : List (List UInt8)) (ks : List Node) (bk : List UInt8) : List UInt8 :=
  if k = 6 then hLi1 ++ bk ++ hLi2 else if k = 9 then hTr1 ++ cellsH (tdH i) ks ++ hTr2 else blkC k lv t d ids ks bk ++ hNl
def hcN (n : Node) : Nat := (headsN n).length
def blkL : Nat → List Node → List (List UInt8) → List UInt8
  | _, [], _ => []
  | i, .mk k lv t d ti ks :: r, ids => blkN i k lv t.data.toList d.data.toList ids ks (blkL 0 ks ids) ++ blkL (i + 1) r (ids.drop (hcN (.mk k lv t d ti ks)))
def blk1 (i : Nat) (n : Node) (ids : List (List UInt8)) : List UInt8 := blkN i n.kind n.level n.text.data.toList n.dest.data.toList ids n.kids (blkL 0 n.kids ids)
theorem blkL_nil (i : Nat) (ids : List (List UInt8)) : blkL i [] ids = [] := by rw [blkL]
theorem blkL_cons (i : Nat) (n : Node) (r : List Node) (ids : List (List UInt8)) : blkL i (n :: r) ids = blk1 i n ids ++ blkL (i + 1) r (ids.drop (hcN n)) := by cases n; rw [blkL]; rfl
theorem hc_cons (n : Node) (r : List Node) : (headsL (n :: r)).length = hcN n + (headsL r).length := by rw [headsL_cons, List.length_append]; rfl
theorem hc_take {l : List Node} {k : Nat} {n : Node} (h : l[k]? = some n) : (headsL (l.take (k + 1))).length = (headsL (l.take k)).length + hcN n := by rw [headsL_take h, List.length_append]; rfl
theorem blkL_append (a b : List Node) : ∀ (i : Nat) (ids : List (List UInt8)), blkL i (a ++ b) ids = blkL i a ids ++ blkL (i + a.length) b (ids.drop (headsL a).length) := by
  induction a with
  | nil => intro i ids; rw [blkL_nil, List.nil_append, List.nil_append, headsL_nil]; rfl
  | cons n r ih =>
    intro i ids
    rw [List.cons_append, blkL_cons, blkL_cons, ih, List.append_assoc, hc_cons, List.length_cons, List.drop_drop, show i + 1 + r.length = i + (r.length + 1) by omega]
theorem blkL_take {l : List Node} {k : Nat} {n : Node} (ids : List (List UInt8)) (h : l[k]? = some n) : blkL 0 (l.take (k + 1)) ids = blkL 0 (l.take k) ids ++ blk1 k n (ids.drop (headsL (l.take k)).length) := by
  obtain ⟨hk, rfl⟩ := List.getElem?_eq_some_iff.1 h
  rw [List.take_succ_eq_append_getElem hk, blkL_append, blkL_cons, blkL_nil, List.append_nil]
  simp [Nat.min_eq_left (Nat.le_of_lt hk)]

/-- rows and cells have no headings -/
theorem heads_cells : ∀ (l : List Node), nodesErr l 9 = 0 → headsL l = []
  | [], _ => headsL_nil
  | n :: r, h => by
    obtain ⟨e1, e2, e3⟩ := nodesErr_at0 h
    have hp := nodeErr_perm e1
    have hk : n.kind = 10 := by
      unfold permittedB at hp
      rw [if_neg (by omega), if_neg (by omega), if_neg (by omega), if_pos rfl] at hp
      simpa using hp
    rw [headsL_cons, heads_cells r e3, headsN, if_neg (by omega), heads_none _ n.kids n.kind (Nat.le_refl _) (by simp [noBlk, hk]) e2]; rfl
theorem heads_rows : ∀ (l : List Node), nodesErr l 8 = 0 → headsL l = []
  | [], _ => headsL_nil
  | n :: r, h => by
    obtain ⟨e1, e2, e3⟩ := nodesErr_at0 h
    have hp := nodeErr_perm e1
    have hk : n.kind = 9 := by
      unfold permittedB at hp
      rw [if_neg (by omega), if_neg (by omega), if_pos rfl] at hp
      simpa using hp
    rw [hk] at e2
    rw [headsL_cons, heads_rows r e3, headsN, if_neg (by omega), heads_cells n.kids e2]; rfl
/-- what a block of a valid document is -/
theorem blk_kind {n : Node} {p : Int} (h : nodeErr n p = 0) (hp : p = 0 ∨ p = 4 ∨ p = 6) : n.kind = 1 ∨ n.kind = 2 ∨ n.kind = 3 ∨ n.kind = 4 ∨ n.kind = 5 ∨ n.kind = 7 ∨ n.kind = 8 := by
  have h1 := nodeErr_perm h
  unfold permittedB at h1
  rw [if_pos hp] at h1
  simp [isBlockB] at h1
  omega
theorem item_kind {n : Node} (h : nodeErr n 5 = 0) : n.kind = 6 := by
  have h1 := nodeErr_perm h
  unfold permittedB at h1
  rw [if_neg (by omega), if_pos rfl] at h1
  simpa using h1
theorem row_kind {n : Node} (h : nodeErr n 8 = 0) : n.kind = 9 := by
  have h1 := nodeErr_perm h
  unfold permittedB at h1
  rw [if_neg (by omega), if_neg (by omega), if_pos rfl] at h1
  simpa using h1
theorem hc_inl {n : Node} (h2 : nodesErr n.kids n.kind = 0) (hk : n.kind = 2 ∨ n.kind = 10) : hcN n = 0 := by
  unfold hcN headsN
  rw [if_neg (by omega), heads_none _ n.kids n.kind (Nat.le_refl _) (by simp only [noBlk, decide_eq_true_eq]; omega) h2]; rfl
theorem hc_head {n : Node} (h2 : nodesErr n.kids n.kind = 0) (hk : n.kind = 1) : hcN n = 1 := by
  unfold hcN headsN
  rw [if_pos hk, heads_none _ n.kids n.kind (Nat.le_refl _) (by simp [noBlk, hk]) h2]; rfl
theorem hc_table {n : Node} (h2 : nodesErr n.kids n.kind = 0) (hk : n.kind = 8) : hcN n = 0 := by
  rw [hk] at h2
  unfold hcN headsN
  rw [if_neg (by omega), heads_rows n.kids h2]; rfl
theorem hc_row {n : Node} (h2 : nodesErr n.kids n.kind = 0) (hk : n.kind = 9) : hcN n = 0 := by
  rw [hk] at h2
  unfold hcN headsN
  rw [if_neg (by omega), heads_cells n.kids h2]; rfl
theorem hc_none {n : Node} (h2 : n.kids = []) (hk : n.kind ≠ 1) : hcN n = 0 := by
  unfold hcN headsN
  rw [if_neg hk, h2, headsL_nil]; rfl
theorem hc_deep {n : Node} (hk : n.kind ≠ 1) : hcN n = (headsL n.kids).length := by
  unfold hcN headsN
  rw [if_neg hk, List.nil_append]
theorem nodesErr_mem {l : List Node} {p : Int} {k : Nat} {n : Node} (h : nodesErr l p = 0) (hn : l[k]? = some n) : nodeErr n p = 0 ∧ nodesErr n.kids n.kind = 0 := by
  induction l generalizing k with
  | nil => simp at hn
  | cons x r ih =>
    obtain ⟨e1, e2, e3⟩ := nodesErr_at0 h
    cases k with
    | zero => simp only [List.getElem?_cons_zero, Option.some.injEq] at hn; subst hn; exact ⟨e1, e2⟩
    | succ k => exact ih e3 (by simpa using hn)

/-! lengths -/
theorem escL_le (l : List UInt8) : (escL l).length ≤ 6 * l.length := by
  rw [escL_len]; have := gainL_le l; omega
theorem destH_le (d : List UInt8) : (destH d).length ≤ 6 * d.length + 1 := by
  unfold destH; split
  · simp
  · have := escL_le d; omega
theorem titlH_le (d : List UInt8) : (titlH d).length ≤ 6 * d.length + 9 := by
  unfold titlH; split
  · simp
  · have := escL_le d; simp only [List.length_append, hT1, hQ, List.length_cons, List.length_nil]; omega
theorem inlN_le (k : Int) (t d ti ks : List UInt8) : (inlN k t d ti ks).length ≤ 6 * t.length + 6 * d.length + 6 * ti.length + ks.length + 64 := by
  have h1 := escL_le t; have h2 := destH_le d; have h3 := titlH_le ti
  unfold inlN
  repeat' split
  all_goals first | (simp only [List.length_append, hNl, hBr, hEm1, hEm2, hSt1, hSt2, hCo1, hCo2, hA1, hQ, hGt, hA2, hI1, hI2, List.length_cons, List.length_nil]; omega) | omega
theorem inlL_len : ∀ (N : Nat) (l : List Node), SizeOf.sizeOf l ≤ N → (inlL l).length ≤ 64 * weight l
  | 0, l, h => by cases l <;> simp at h
  | N + 1, [], _ => by rw [inlL_nil]; simp
  | N + 1, n :: r, h => by
    rw [inlL_cons, weight_cons, List.length_append]
    have h1 := n.kids_lt
    simp only [List.cons.sizeOf_spec] at h
    have a := inlL_len N n.kids (by omega)
    have b := inlL_len N r (by omega)
    have c := inlN_le n.kind n.text.data.toList n.dest.data.toList n.title.data.toList (inlL n.kids)
    have e : n.text.data.toList.length = n.text.size := size_toList _
    have e2 : n.dest.data.toList.length = n.dest.size := size_toList _
    have e3 : n.title.data.toList.length = n.title.size := size_toList _
    unfold inl1
    omega
theorem inl_len (l : List Node) : (inlL l).length ≤ 64 * weight l := inlL_len _ l (Nat.le_refl _)
theorem tdH_le (i : Nat) : (tdH i).length ≤ 2 := by unfold tdH; split <;> simp [hTh, hTd]
theorem cellsH_le (i : Nat) : ∀ l : List Node, (cellsH (tdH i) l).length ≤ 64 * weight l
  | [] => by simp [cellsH]
  | n :: r => by
    have h1 := cellsH_le i r
    have h2 := inl_len n.kids
    have h3 := tdH_le i
    have e : cellsH (tdH i) (n :: r) = cellH (tdH i) n ++ cellsH (tdH i) r := by simp [cellsH]
    rw [e, weight_cons, List.length_append]
    simp only [cellH, List.length_append, hLt, hLs, hGt, List.length_cons, List.length_nil]
    omega
theorem cutI_le : ∀ l : List UInt8, (cutI l).length ≤ l.length
  | [] => by simp [cutI]
  | c :: r => by
    have := cutI_le r
    unfold cutI; split
    · simp
    · simp only [List.length_cons]; omega
theorem infoH_le (d : List UInt8) : (infoH d).length ≤ 6 * d.length + 40 := by
  unfold infoH; split
  · simp [hPre1, hGt]
  · have h1 := escL_le (cutI d); have h2 := cutI_le d
    simp only [List.length_append, hPre1, hGt, hCls, hQ, List.length_cons, List.length_nil]; omega
theorem lvB_le {lv : Int} (h : -1 ≤ lv ∧ lv ≤ 9999) : (lvB lv).length ≤ 21 := Lib.itoa_length_le lv (by omega) (by omega)
theorem headId_le {ids : List (List UInt8)} (h : ∀ x ∈ ids, x.length ≤ 1048700) : (headId ids).length ≤ 1048700 := by
  unfold headId
  cases ids with
  | nil => simp
  | cons a r => exact h a (by simp)
theorem blkN_le (i : Nat) (k lv : Int) (t d : List UInt8) (ids : List (List UInt8)) (ks : List Node) (bk : List UInt8) (X : Nat) (hlv : -1 ≤ lv ∧ lv ≤ 9999) (hid : ∀ x ∈ ids, x.length ≤ 1048700) (h1 : 64 * weight ks ≤ X) (h2 : bk.length ≤ X) :
    (blkN i k lv t d ids ks bk).length ≤ 6292200 + 200 + 6 * t.length + 6 * d.length + X := by
  have a := lvB_le hlv
  have b := headId_le hid
  have c := escL_le (headId ids)
  have e := escL_le t
  have f := infoH_le d
  have g := inl_len ks
  have m := cellsH_le i ks
  have n1 : (olH lv).length ≤ 40 := by
    unfold olH; split
    · simp [hUl1]
    · split
      · simp [hOl1]
      · simp only [List.length_append, hOs, hQgn, List.length_cons, List.length_nil]; omega
  have n2 : (lnH lv).length ≤ 2 := by unfold lnH; split <;> simp [hUl, hOl]
  unfold blkN blkC
  repeat' split
  all_goals first | (simp only [List.length_append, hNl, hH1, hId, hQg, hH2, hGt, hP1, hP2, hPre2, hBq1, hBq2, hLs, hHr, hTb1, hTb2, hLi1, hLi2, hTr1, hTr2, List.length_cons, List.length_nil]; omega) | omega
theorem blkL_len : ∀ (N : Nat) (l : List Node) (i : Nat) (ids : List (List UInt8)), SizeOf.sizeOf l ≤ N → Leveled l → (∀ x ∈ ids, x.length ≤ 1048700) → (blkL i l ids).length ≤ 6292500 * weight l
  | 0, l, _, _, h, _, _ => by cases l <;> simp at h
  | N + 1, [], i, ids, _, _, _ => by rw [blkL_nil]; simp
  | N + 1, n :: r, i, ids, h, hl, hid => by
    rw [blkL_cons, weight_cons, List.length_append]
    have h1 := n.kids_lt
    simp only [List.cons.sizeOf_spec] at h
    obtain ⟨hl1, _, hl2⟩ := hl.at_ (k := 0) (n := n) rfl
    have hl3 : Leveled r := by cases n; simp only [Leveled] at hl; exact hl.2.2.2
    have a := blkL_len N n.kids 0 ids (by omega) hl2 hid
    have b := blkL_len N r (i + 1) (ids.drop (hcN n)) (by omega) hl3 (fun x hx => hid x (List.mem_of_mem_drop hx))
    have c := blkN_le i n.kind n.level n.text.data.toList n.dest.data.toList ids n.kids (blkL 0 n.kids ids) (6292500 * weight n.kids) hl1 hid (by omega) a
    have e : n.text.data.toList.length = n.text.size := size_toList _
    have e2 : n.dest.data.toList.length = n.dest.size := size_toList _
    unfold blk1
    omega
theorem blk_len {l : List Node} {i : Nat} {ids : List (List UInt8)} (hl : Leveled l) (hid : ∀ x ∈ ids, x.length ≤ 1048700) : (blkL i l ids).length ≤ 6292500 * weight l := blkL_len _ l i ids (Nat.le_refl _) hl hid

/-! what is written up to a limit -/
def Lim (acc full : List UInt8) : Prop := acc = full ∨ (200000 < acc.length ∧ 200000 < full.length)
theorem Lim.start : Lim [] [] := Or.inl rfl
theorem Lim.put {acc full : List UInt8} (h : Lim acc full) (s : List UInt8) (ha : acc.length ≤ 200000) : Lim (acc ++ s) (full ++ s) := by
  rcases h with rfl | h
  · exact Or.inl rfl
  · omega
theorem Lim.skip {acc full : List UInt8} (h : Lim acc full) (s : List UInt8) (ha : ¬ acc.length ≤ 200000) : Lim acc (full ++ s) := by
  right
  rcases h with rfl | h
  · refine ⟨by omega, ?_⟩; rw [List.length_append]; omega
  · refine ⟨h.1, ?_⟩; rw [List.length_append]; omega
end Go.Proofs.YtikijmjcmpkkdaaGreatDoor

namespace Go.Proofs.YtikijmjcmpkkdaaGreatDoor
open Go.RowKit Go.Deep

theorem lies_html : liesAt Tryz.prog Tryz.prog.depth 57 (3 / Tryz.prog.cellsOf 57) 0 55 1 = true := by kernel_rfl
theorem neH5 : (57 : TypeId) ≠ 5 := by decide
theorem neHs : (57 : TypeId) ≠ 9 := by decide
theorem neS5 : (9 : TypeId) ≠ 5 := by decide

/-- the box: its builder holds those bytes; iv: its list of ids -/
def HAt (B b : Nat) (l : List UInt8) (iv : Value) (w : World) : Prop :=
  B ≤ b ∧ ∃ p v, (p = .pointer none ∨ p = .pointer (some ⟨b, 0, none⟩)) ∧ CB w b 57 #[p, v, iv] ∧ w.ownsRow B 5 1 v l.length (byteCells l) ∧ v.ownBlock ≠ some b
theorem HAt.lt {B b : Nat} {l : List UInt8} {iv : Value} {w : World} (h : HAt B b l iv w) : b < w.heap.size := by
  obtain ⟨_, p, v, _, h1, _⟩ := h; exact h1.lt
theorem HAt.below {B b : Nat} {l : List UInt8} {iv : Value} {w w' : World} (h : HAt B b l iv w) (hb : Below w.heap.size w w') : HAt B b l iv w' := by
  obtain ⟨h0, p, v, hp, h1, h2, h3⟩ := h
  exact ⟨h0, p, v, hp, h1.below hb, own_agree h2 (fun g hg => hb.block g (h2.lt g hg).2), h3⟩
theorem HAt.start {w : World} {B : Nat} (iv : Value) (hB : B ≤ w.heap.size) : HAt B w.heap.size [] iv (w.alloc (.cells #[.pointer none, .slice none 0 0, iv] 57)) :=
  ⟨hB, _, _, Or.inl rfl, CB.new _ _ _, ⟨rfl, Or.inl ⟨rfl, rfl⟩⟩, by simp [Value.ownBlock]⟩
theorem HAt.ids {B b : Nat} {l : List UInt8} {iv : Value} {w : World} (h : HAt B b l iv w) (jv : Value) : HAt B b l jv (w.setCell ⟨b, 2, none⟩ jv) := by
  obtain ⟨h0, p, v, hp, h1, h2, h3⟩ := h
  exact ⟨h0, p, v, hp, h1.put 2 jv, h2.kept (grown_setB w b 2 jv) (Or.inr h3), h3⟩
theorem HAt.put {B b : Nat} {l : List UInt8} {p u v iv : Value} {w : World} (hB : B ≤ b) (hp : p = .pointer none ∨ p = .pointer (some ⟨b, 0, none⟩)) (hb : CB w b 57 #[p, u, iv]) (ho : w.ownsRow B 5 1 v l.length (byteCells l)) : HAt B b l iv (w.setCell ⟨b, 1, none⟩ v) := by
  have hne := Lib.ownBlock_ne ho hb neH5
  exact ⟨hB, p, v, hp, hb.put 1 v, ho.kept (grown_setB w b 1 v) (Or.inr hne), hne⟩

/-- a check: the builder knows its own place from then on -/
def HUsed (B b : Nat) (l : List UInt8) (iv : Value) (w : World) : Prop :=
  B ≤ b ∧ ∃ v, CB w b 57 #[.pointer (some ⟨b, 0, none⟩), v, iv] ∧ w.ownsRow B 5 1 v l.length (byteCells l) ∧ v.ownBlock ≠ some b
set_option maxRecDepth 100000 in
theorem hCheck_fresh (b : Nat) (w : World) (h0 : w.cell? ⟨b, 0, none⟩ = some (.pointer none)) (hsh : w.shape? b = some (57, 3)) (hfz : w.frozen? ⟨b, 0, none⟩ = false) :
    Calls Tryz.prog 83 #[.pointer (some ⟨b, 0, none⟩)] w fun e w' => e = .returned (.tuple #[]) ∧ w.setCell ⟨b, 0, none⟩ (.pointer (some ⟨b, 0, none⟩)) = w' := by
  obtain ⟨j, hj, hjs⟩ := Option.map_eq_some_iff.1 size_builder
  have h1 := Lib.run_to_unsafe (P := Tryz.prog) w ⟨b, 0, none⟩ Tryz.underlying52 Tryz.underlying127 hj (by rw [hjs]; decide) hsh (Nat.zero_lt_succ 2)
  have h2 := Lib.run_from_unsafe (P := Tryz.prog) w ⟨b, 0, none⟩ Tryz.underlying127 Tryz.underlying52 hj hsh lies_html
  have h3 := run_callFunc_extern (P := Tryz.prog) Tryz.func125 (by kernel_rfl) (by kernel_rfl) (by kernel_rfl) (e := Extern.AbiNoEscape.same) (by kernel_rfl)
  have h4 := fun x : Value => Lib.run_noEscape (P := Tryz.prog) w x
  go_enter Tryz.func83, Tryz.ntmps83
  go_wp2
  go_end0
  exact ⟨rfl, rfl⟩
theorem hCheck_q (B b : Nat) (l : List UInt8) (iv : Value) (w : World) (h : HAt B b l iv w) :
    Calls Tryz.prog 83 #[.pointer (some ⟨b, 0, none⟩)] w fun e w' => e = .returned (.tuple #[]) ∧ HUsed B b l iv w' ∧ Below B w w' ∧ KeepB b w w' := by
  obtain ⟨h0, p, v, hp, h1, h2, h3⟩ := h
  rcases hp with rfl | rfl
  · refine (hCheck_fresh b w (h1.c 0) h1.sh (h1.f 0)).mono fun e w' ⟨he, hw⟩ => ?_
    subst hw
    exact ⟨he, ⟨h0, v, h1.put 0 _, h2.kept (grown_setB w b 0 _) (Or.inr h3), h3⟩, (Below.refl _ _).setCell (p := ⟨b, 0, none⟩) h0 _, KeepB.set _ _ _ _⟩
  · refine (copyCheck_used b w (h1.c 0)).mono fun e w' ⟨he, hw⟩ => ?_
    subst hw
    exact ⟨he, ⟨h0, v, h1, h2, h3⟩, Below.refl _ _, KeepB.refl _ _⟩

set_option maxRecDepth 100000 in
set_option maxHeartbeats 1000000 in
theorem hWrite_q (B b : Nat) (l : List UInt8) (iv : Value) (s : ByteArray) (w : World) (h : HAt B b l iv w) (hlen : l.length + s.size ≤ 1073741824) (hBw : B ≤ w.heap.size) :
    Calls Tryz.prog 50 #[.pointer (some ⟨b, 0, none⟩), .string s] w fun e w' => e = .returned (.tuple #[.int .i64 s.size, .nilIface]) ∧ HAt B b (l ++ s.data.toList) iv w' ∧ Below B w w' ∧ KeepB b w w' := by
  obtain ⟨i0, hi, hz0, hz1, hz2⟩ := info_parts info_byte
  have hcp := hCheck_q B b l iv w h
  have HC := Lib.hid hcp; clear hcp
  go_enter Tryz.func50, Tryz.ntmps50
  go_wp2_with fail
  refine HC.out.mono ?_
  rintro e w1 ⟨rfl, ⟨hB, v, hbk, hown, hne⟩, hb1, hk1⟩
  have HK1 := Lib.hid hk1; clear hk1
  have c0 : w1.cell? ⟨b, 0, none⟩ = some (.pointer (some ⟨b, 0, none⟩)) := hbk.c 0
  have c1 : w1.cell? ⟨b, 1, none⟩ = some v := hbk.c 1
  have hz := hb1.size
  have HB1 := Lib.hid hb1; clear hb1
  have hlt : b < w1.heap.size := hbk.lt
  have HBk := Lib.hid hbk; clear hbk
  have HNe := Lib.hid hne; clear hne
  have HOwn := Lib.hid hown; clear hown
  clear h
  obtain ⟨A1, cc, rfl, hc1, hc2, hc3⟩ := own_form HOwn.out
  clear hc1 hc2 hc3
  go_wp2_with (at_builtin; go_must (refine Lib.wpList_append_own_string _ rfl _ _ 53 9 rfl B 5 i0 Tryz.underlying53 Tryz.underlying9 hi hz0 hz1 hz2 _ _ _ rfl HOwn.out s rfl ?c3 ?c4 ?c5 ?_))
  case c3 => unfold maxLen; omega
  case c4 => omega
  case c5 => omega
  intro v' w2 hown' hgrow _
  have hb2 : CB w2 b 57 #[.pointer (some ⟨b, 0, none⟩), .slice A1 l.length cc, iv] := HBk.out.other hgrow (fun e => HNe.out e.symm)
  have d0 : w2.cell? ⟨b, 0, none⟩ = some (.pointer (some ⟨b, 0, none⟩)) := hb2.c 0
  have d1 : w2.cell? ⟨b, 1, none⟩ = some (.slice A1 l.length cc) := hb2.c 1
  have f1 : w2.frozen? ⟨b, 1, none⟩ = false := hb2.f 1
  have HO2 := Lib.hid hown'; clear hown'
  have HB2 := Lib.hid hb2; clear hb2
  have HKS := Lib.hid (HK1.out.trans (KeepB.grown HOwn.out hgrow))
  have HG := Lib.hid (HB1.out.grown hgrow (by omega) (fun k hk => (HOwn.out.lt k hk).1)); clear hgrow
  obtain ⟨A2, c2, rfl, hc1, hc2, hc3⟩ := own_form HO2.out
  clear hc1 hc2 hc3
  go_wp2_with fail
  go_ret2
  refine ⟨rfl, ?_, HG.out.setCell (p := ⟨b, 1, none⟩) hB _, HKS.out.trans (KeepB.set _ _ _ _)⟩
  have hcells : byteCells (l ++ s.data.toList) = byteCells l ++ Lib.strCells s := by simp [byteCells, Lib.strCells]
  refine HAt.put hB (Or.inr rfl) HB2.out ?_
  have := HO2.out
  rw [hcells, List.length_append, size_toList]
  exact this

set_option maxRecDepth 100000 in
theorem hLen_q (B b : Nat) (l : List UInt8) (iv : Value) (w : World) (h : HAt B b l iv w) :
    Calls Tryz.prog 35 #[.pointer (some ⟨b, 0, none⟩)] w fun e w' => e = .returned (.int .i64 l.length) ∧ w = w' := by
  obtain ⟨h0, p, v, hp, h1, h2, h3⟩ := h
  obtain ⟨A1, cc, rfl, hc1, hc2, hc3⟩ := own_form h2
  have c1 : w.cell? ⟨b, 1, none⟩ = some (.slice A1 l.length cc) := h1.c 1
  have hl : l.length ≤ maxLen := Nat.le_trans hc2 hc1
  unfold maxLen at hl
  clear h1 h2 h3 hc3
  go_enter Tryz.func35, Tryz.ntmps35
  go_wp2_with fail
  go_ret
  exact ⟨rfl, rfl⟩

/-- the writer: what it should have written, and the ids that are left; w0: the world ahead of it -/
structure HW (w0 : World) (b : Nat) (full : List UInt8) (ids : List (List UInt8)) (w : World) : Prop where
  below : Below w0.heap.size w0 w
  box : ∃ acc iv, Lim acc full ∧ acc.length ≤ 536870912 ∧ OnesAt w0 iv (strCells ids) ∧ HAt w0.heap.size b acc iv w
theorem HW.lt {w0 : World} {b : Nat} {full : List UInt8} {ids : List (List UInt8)} {w : World} (h : HW w0 b full ids w) : b < w.heap.size := by
  obtain ⟨acc, iv, _, _, _, h1⟩ := h.box; exact h1.lt
theorem HW.ge {w0 : World} {b : Nat} {full : List UInt8} {ids : List (List UInt8)} {w : World} (h : HW w0 b full ids w) : w0.heap.size ≤ b := by
  obtain ⟨acc, iv, _, _, _, h1⟩ := h.box; exact h1.1
theorem HW.more {w0 : World} {b : Nat} {full : List UInt8} {ids : List (List UInt8)} {w w' : World} (h : HW w0 b full ids w) (hb : Below w.heap.size w w') : HW w0 b full ids w' := by
  obtain ⟨acc, iv, a, c, d, h1⟩ := h.box
  exact ⟨h.below.trans (hb.mono h.below.size), acc, iv, a, c, d, h1.below hb⟩
theorem HW.keeps {w0 : World} {b : Nat} {full : List UInt8} {ids : List (List UInt8)} {w : World} (h : HW w0 b full ids w) : Keeps w0 w := Keeps.of_below h.below
theorem HW.eq {w0 : World} {b : Nat} {full full' : List UInt8} {ids : List (List UInt8)} {w : World} (h : HW w0 b full ids w) (e : full = full') : HW w0 b full' ids w := e ▸ h

theorem cb_ne {w : World} {b n : Nat} {t u : TypeId} {cs ds : Array Value} (h : CB w b t cs) (k : CB w n u ds) (hne : u ≠ t) : n ≠ b := by
  rintro rfl
  have := h.symm.trans k
  simp at this
  exact hne this.2.symm

set_option maxRecDepth 100000 in
set_option maxHeartbeats 2000000 in
theorem put_q (w0 : World) (b n : Nat) (full add : List UInt8) (ids : List (List UInt8)) (ss : List ByteArray) (m : Nat) (w : World) (h : HW w0 b full ids w) (hc : CB w n 9 (ss.map Value.string).toArray) (hm : ss.length = m) (hm2 : m ≤ 100)
    (hsz : ∀ s ∈ ss, s.size ≤ 16777216) (hadd : ss.flatMap (fun s => s.data.toList) = add) :
    Calls Tryz.prog 63 #[.pointer (some ⟨b, 0, none⟩), .slice (some ⟨n, 0, none⟩) m m] w fun e w' => e = .returned (.tuple #[]) ∧ HW w0 b (full ++ add) ids w' ∧ KeepB b w w' := by
  subst hm
  have hcell : ∀ (j : Nat) (s : ByteArray), ss[j]? = some s → ∀ W, CB W n 9 (ss.map Value.string).toArray → W.cell? ⟨n, j, none⟩ = some (.string s) := by
    intro j s hj W hW
    rw [hW.c j]; simp [hj]
  have HCell := Lib.hid hcell; clear hcell
  have HSz := Lib.hid hsz; clear hsz
  have HH := Lib.hid h
  have HC := Lib.hid hc
  have HAdd := Lib.hid hadd; clear hadd
  clear h hc
  go_enter Tryz.func63, Tryz.ntmps63
  go_wp2_with fail
  go_loopw [8] (fun v8 wr => ∃ (kk : Nat), v8 = .int .i64 kk ∧ kk ≤ ss.length ∧ Hid (HW w0 b (full ++ (ss.take kk).flatMap (fun s => s.data.toList)) ids wr) ∧ Hid (CB wr n 9 (ss.map Value.string).toArray) ∧ Hid (KeepB b w wr)) (fun v8 _ => ss.length - (intOf v8).toNat)
  case atStart => exact ⟨0, rfl, Nat.zero_le _, HH.out.eq (by simp), HC.out, KeepB.refl _ _⟩
  case round =>
    obtain ⟨kk, rfl, hk, hW, hCB, hKB⟩ := hrel
    by_cases hlt : kk < ss.length
    · obtain ⟨s, hs⟩ : ∃ s, ss[kk]? = some s := ⟨_, List.getElem?_eq_getElem hlt⟩
      have c0 := HCell.out kk s hs wr hCB.out
      have hsb := HSz.out s (List.mem_of_getElem? hs)
      have hnext : (ss.take (kk + 1)).flatMap (fun s => s.data.toList) = (ss.take kk).flatMap (fun s => s.data.toList) ++ s.data.toList := by
        rw [List.take_add_one, hs, List.flatMap_append]; simp
      have HN := Lib.hid hnext; clear hnext hs
      obtain ⟨hbel, acc, iv, hlim, hacc, hids, hat⟩ := hW.out
      have hne : n ≠ b := by
        obtain ⟨_, p, v, _, h1, _⟩ := hat
        exact cb_ne h1 hCB.out neHs.symm
      have HLen := Lib.hid (hLen_q w0.heap.size b acc iv wr hat)
      have HAt := Lib.hid hat; clear hat
      have HBel := Lib.hid hbel; clear hbel
      have HLim := Lib.hid hlim; clear hlim
      have HIds := Lib.hid hids; clear hids
      have HNe := Lib.hid hne; clear hne
      by_cases hle : acc.length ≤ 200000
      · have hwr := Lib.hid (hWrite_q w0.heap.size b acc iv s wr HAt.out (by omega) HBel.out.size)
        have t1 : decide ((acc.length : Int) ≤ 200000) = true := by simp; omega
        go_wp2_with (first
          | (go_at_call 35; go_must (refine HLen.out.mono ?_); rintro e w1 ⟨rfl, hw1⟩; obtain rfl := hw1)
          | (go_at_call 50; go_must (refine hwr.out.mono ?_); rintro e w2 ⟨rfl, h2, hb2, hk2⟩; have H2 := Lib.hid h2; have HB2 := Lib.hid hb2; have HK2 := Lib.hid hk2; clear h2 hb2 hk2))
        go_roundw
        case rel =>
          refine ⟨kk + 1, by go_num, by omega, ?_, HK2.out n _ _ hCB.out neS5 HNe.out, hKB.out.trans HK2.out⟩
          show HW w0 b _ ids _
          rw [HN.out, ← List.append_assoc]
          exact ⟨HBel.out.trans HB2.out, _, iv, HLim.out.put _ hle, by rw [List.length_append, size_toList]; omega, HIds.out, H2.out⟩
        case measure => simp [intOf]; omega
      · have t1 : decide ((acc.length : Int) ≤ 200000) = false := by simp; omega
        go_wp2_with (go_at_call 35; go_must (refine HLen.out.mono ?_); rintro e w1 ⟨rfl, hw1⟩; obtain rfl := hw1)
        go_roundw
        case rel =>
          refine ⟨kk + 1, by go_num, by omega, ?_, hCB.out, hKB.out⟩
          show HW w0 b _ ids _
          rw [HN.out, ← List.append_assoc]
          exact ⟨HBel.out, _, iv, HLim.out.skip _ hle, hacc, HIds.out, HAt.out⟩
        case measure => simp [intOf]; omega
    · have hke : kk = ss.length := by omega
      subst hke
      rw [List.take_length] at hW
      go_wp2_with fail
      go_end0
      exact ⟨rfl, hW.out.eq (by rw [HAdd.out]), hKB.out⟩


/-! calls of put -/
theorem KeepB.of_below {b : Nat} {w w' : World} (h : Below w.heap.size w w') : KeepB b w w' := fun _ _ _ hc _ _ => hc.below h
theorem KeepB.alloc (b : Nat) (w : World) (o : Obj) : KeepB b w (w.alloc o) := fun _ _ _ hc _ _ => hc.alloc o
theorem HW.alloc {w0 : World} {b : Nat} {full : List UInt8} {ids : List (List UInt8)} {w : World} (h : HW w0 b full ids w) (o : Obj) : HW w0 b full ids (w.alloc o) := h.more ((Below.refl _ _).alloc (Nat.le_refl _) o)
theorem HW.drew {w0 : World} {b : Nat} {full : List UInt8} {ids : List (List UInt8)} {w : World} (h : HW w0 b full ids w) : HW w0 b full ids w.drew := h.more ((Below.refl _ _).drew)
theorem KeepB.drew (b : Nat) (w : World) : KeepB b w w.drew := fun _ _ _ hc _ _ => hc.drew
def cat (ss : List ByteArray) : List UInt8 := ss.flatMap (fun s => s.data.toList)
@[simp] theorem cat_nil : cat [] = [] := rfl
@[simp] theorem cat_cons (s : ByteArray) (r : List ByteArray) : cat (s :: r) = s.data.toList ++ cat r := by simp [cat]
def AllSz : List ByteArray → Prop
  | [] => True
  | s :: r => s.size ≤ 16777216 ∧ AllSz r
theorem AllSz.mem : ∀ {l : List ByteArray}, AllSz l → ∀ s ∈ l, s.size ≤ 16777216
  | a :: r, h, s, hs => by
    cases List.mem_cons.1 hs with
    | inl e => subst e; exact h.1
    | inr e => exact AllSz.mem h.2 s e
/-- what each writer leaves -/
def WPost (w0 : World) (b : Nat) (full : List UInt8) (ids : List (List UInt8)) (w : World) (e : Ending) (w' : World) : Prop := e = .returned (.tuple #[]) ∧ HW w0 b full ids w' ∧ KeepB b w w'
theorem put_at {w0 : World} {b : Nat} {full : List UInt8} {ids : List (List UInt8)} (ss : List ByteArray) (m : Nat) (hm : ss.length = m) (hm2 : m ≤ 100) (cs : Array Value) (hcs : cs = (ss.map Value.string).toArray) (W : World) (h : HW w0 b full ids W) (hsz : AllSz ss) (n : Nat) (hn : W.heap.size = n) :
    Calls Tryz.prog 63 #[.pointer (some ⟨b, 0, none⟩), .slice (some ⟨n, 0, none⟩) m m] (W.alloc (.cells cs 9)) (WPost w0 b (full ++ cat ss) ids W) := by
  subst hcs hn
  refine (put_q w0 b W.heap.size full (cat ss) ids ss m _ (h.alloc _) (CB.new _ _ _) hm hm2 hsz.mem rfl).mono fun e w' ⟨h1, h2, h3⟩ => ⟨h1, h2, (KeepB.alloc _ _ _).trans h3⟩

end Go.Proofs.YtikijmjcmpkkdaaGreatDoor

namespace Go.Proofs.YtikijmjcmpkkdaaGreatDoor
open Go.RowKit Go.Deep

set_option maxHeartbeats 1000000 in
theorem mLower_any (s : ByteArray) (w : World) (hs : s.size ≤ 1073741824) :
    Calls Tryz.prog 176 #[.string s] w fun e w' => e = .returned (.string ⟨(lowerL s.data.toList).toArray⟩) ∧ Below w.heap.size w w' := by
  obtain ⟨cap, W, hconv, hcap, hcap2, hcell, hfz, hbel, hsz⟩ := conv_bytes (P := Tryz.prog) w 9 53 5 s Tryz.underlying9 Tryz.underlying53 Tryz.underlying5 hs
  have HC := Lib.hid hcell; clear hcell
  have HF := Lib.hid hfz; clear hfz
  have HB := Lib.hid hbel; clear hbel
  have HS := Lib.hid hsz; clear hsz
  go_enter Tryz.func176, Tryz.ntmps176
  go_wp2_with fail
  clear hconv
  go_loopw [10] (fun i wr => ∃ k : Nat, k ≤ s.size ∧ i = .int .i64 k ∧ Below w.heap.size w wr ∧ (∀ j, j < s.size → wr.cell? ⟨w.heap.size, j, none⟩ = some (.int .u8 (((low s.data.toList k).getD j 0).toNat : Int))) ∧
      (∀ j, j < s.size → wr.frozen? ⟨w.heap.size, j, none⟩ = false)) (fun i _ => s.size - (intOf i).toNat)
  case atStart => exact ⟨0, Nat.zero_le _, rfl, HB.out, fun j hj => by rw [HC.out j hj, low_zero], HF.out⟩
  case round =>
    obtain ⟨k, hk, rfl, hB, hc, hf⟩ := hrel
    by_cases hlt : k < s.size
    · have c0 := hc k hlt
      have f0 := hf k hlt
      have hHC := Lib.hid hc; clear hc
      have hHF := Lib.hid hf; clear hf
      have hHB := Lib.hid hB; clear hB
      obtain ⟨b, hb⟩ : ∃ b, s.data.toList[k]? = some b := ⟨_, List.getElem?_eq_getElem (by rw [size_toList]; exact hlt)⟩
      rw [low_at hb] at c0
      have hbb : (b.toNat : Int) < 256 := by have := b.toNat_lt; omega
      have hst := low_step hb
      have HSt := Lib.hid hst; clear hst
      have HBt := Lib.hid hb; clear hb
      by_cases h1 : 65 ≤ (b.toNat : Int) ∧ (b.toNat : Int) ≤ 90
      · obtain ⟨h1a, h1b⟩ := h1
        go_wp2_with fail
        go_roundw
        case rel =>
          refine ⟨k + 1, by omega, by go_num, hHB.out.setCell (Nat.le_refl _) _, fun j hj => ?_, fun j hj => ?_⟩
          · rw [HSt.out]
            by_cases hjk : j = k
            · subst hjk
              rw [World.cell?_setCell_same _ _ _ (hHC.out j hj), List.getD_eq_getElem?_getD, List.getElem?_set_self (by rw [low_len, size_toList]; exact hj)]
              simp only [Option.getD_some]
              rw [lowerB_up ⟨h1a, h1b⟩]
            · rw [World.cell?_setCell_other _ _ _ _ (by intro e; injection e with _ e _; exact hjk e.symm), hHC.out j hj, List.getD_eq_getElem?_getD, List.getD_eq_getElem?_getD, List.getElem?_set_ne (fun e => hjk e.symm)]
          · rw [World.frozen?_setCell]
            exact hHF.out j hj
        case measure => simp [intOf]; omega
      · have hB2 : lowerB b = b := lowerB_id h1
        have HB2 := Lib.hid hB2; clear hB2
        have hSt2 : ∀ j, (low s.data.toList (k + 1)).getD j 0 = (low s.data.toList k).getD j 0 := by
          intro j
          rw [HSt.out, HB2.out]
          by_cases hjk : k = j
          · subst hjk
            rw [List.getD_eq_getElem?_getD, List.getElem?_set_self (by rw [low_len, size_toList]; exact hlt), low_at HBt.out]
            rfl
          · rw [List.getD_eq_getElem?_getD, List.getElem?_set_ne hjk, List.getD_eq_getElem?_getD]
        have HSt2 := Lib.hid hSt2; clear hSt2
        by_cases h2 : 65 ≤ (b.toNat : Int)
        · have h3 : ¬ (b.toNat : Int) ≤ 90 := fun h => h1 ⟨h2, h⟩
          clear h1
          go_wp2_with fail
          go_roundw
          case rel => exact ⟨k + 1, by omega, by go_num, hHB.out, fun j hj => by rw [HSt2.out]; exact hHC.out j hj, hHF.out⟩
          case measure => simp [intOf]; omega
        · clear h1
          go_wp2_with fail
          go_roundw
          case rel => exact ⟨k + 1, by omega, by go_num, hHB.out, fun j hj => by rw [HSt2.out]; exact hHC.out j hj, hHF.out⟩
          case measure => simp [intOf]; omega
    · have hke : k = s.size := by omega
      have hback := conv_string (P := Tryz.prog) wr 53 9 5 w.heap.size s.size cap (lowerL s.data.toList) Tryz.underlying53 Tryz.underlying5 Tryz.underlying9 (by simp only [lowerL, List.length_map]; rw [size_toList])
        (fun j hj => by rw [hc j hj, hke, low_all _ _ (by rw [size_toList])])
      have hHB := Lib.hid hB; clear hB hc hf
      clear hke
      go_wp2_with fail
      go_ret
      exact ⟨rfl, hHB.out⟩


theorem mLower_q2 (s : ByteArray) (x : ByteArray) (w : World) (hs : s.size ≤ 1048576) (hx : x.data.toList = lowerL s.data.toList) :
    Calls Tryz.prog 176 #[.string s] w fun e w' => e = .returned (.string x) ∧ Below w.heap.size w w' :=
  (mLower_any s w (by omega)).mono fun e w' ⟨h1, h2⟩ => ⟨h1.trans (ret_string (by rw [hx])), h2⟩

set_option maxRecDepth 100000 in
set_option maxHeartbeats 2000000 in
theorem address_q (s z : ByteArray) (w : World) (hs : s.size ≤ 1048576) (h : (if badB s.data.toList = true then ⟨#[35]⟩ else s : ByteArray) = z) :
    Calls Tryz.prog 146 #[.string s] w fun e w' => e = .returned (.string z) ∧ Below w.heap.size w w' := by
  have HV := Lib.hid h; clear h
  rcases colon_prog s.data.toList with ⟨h3, h4 | ⟨k, b, h4, h5, h6⟩⟩ | ⟨k, h3, h4, h5⟩
  · have HR := Lib.hid (show z = s by rw [← HV.out, bad_none h3]; rfl)
    have H4 := Lib.hid h4; clear h3 h4
    go_enter Tryz.func146, Tryz.ntmps146
    go_wp2_with (go_at_call 105; go_must (refine (any_v s _ (-1) _ hs (by decide) (by decide) asc_colon H4.out).mono ?_); rintro e w1 ⟨rfl, hb⟩; have HB := Lib.hid hb; clear hb)
    go_ret
    exact ⟨by rw [HR.out]; rfl, HB.out⟩
  · have HR := Lib.hid (show z = s by rw [← HV.out, bad_none h3]; rfl)
    have hk : k < s.size := by rw [← size_toList]; exact (List.getElem?_eq_some_iff.1 h5).1
    have hsb : s[k] = b := by
      obtain ⟨_, h7⟩ := List.getElem?_eq_some_iff.1 h5
      rw [← h7]; rfl
    subst hsb
    have hne : ((s[k].toNat : Int) != 58) = true := by
      simp only [bne_iff_ne, ne_eq]
      intro h7
      exact h6 (UInt8.toNat_inj.1 (by have : (58 : UInt8).toNat = 58 := rfl; omega))
    have H4 := Lib.hid h4; clear h3 h4 h5 h6
    go_enter Tryz.func146, Tryz.ntmps146
    go_wp2_with (go_at_call 105; go_must (refine (any_v s _ (k : Int) _ hs (by decide) (by decide) asc_colon H4.out).mono ?_); rintro e w1 ⟨rfl, hb⟩; have HB := Lib.hid hb; clear hb)
    go_ret
    exact ⟨by rw [HR.out]; rfl, HB.out⟩
  · have hk : k < s.size := by rw [← size_toList]; exact (List.getElem?_eq_some_iff.1 h5).1
    have hsb : s[k] = 58 := by
      obtain ⟨_, h7⟩ := List.getElem?_eq_some_iff.1 h5
      rw [← h7]; rfl
    have hne : ((s[k].toNat : Int) != 58) = false := by rw [hsb]; rfl
    have hbad := bad_some h3
    obtain ⟨x, hx⟩ : ∃ x : ByteArray, x.data.toList = lowerL (s.extract 0 k).data.toList := ⟨⟨(lowerL (s.extract 0 k).data.toList).toArray⟩, rfl⟩
    have hx2 := ok_tests x _ (by rw [hx, cut_list] : x.data.toList = lowerL (s.data.toList.take k))
    have HX := Lib.hid hx; clear hx
    have hcs : (s.extract 0 k).size ≤ 1048576 := by rw [ByteArray.size_extract]; omega
    have HS := Lib.hid hcs; clear hcs
    have H4 := Lib.hid h4; clear h3 h4 h5 hsb
    rw [hx2] at hbad
    clear hx2
    cases t1 : (x.toList == [104, 116, 116, 112])
    · cases t2 : (x.toList == [104, 116, 116, 112, 115])
      · cases t3 : (x.toList == [109, 97, 105, 108, 116, 111])
        · rw [t1, t2, t3] at hbad
          have HR := Lib.hid (show z = ⟨#[35]⟩ by rw [← HV.out, hbad]; rfl); clear hbad HV
          go_enter Tryz.func146, Tryz.ntmps146
          go_wp2_with (first | (go_at_call 105; go_must (refine (any_v s _ (k : Int) _ hs (by decide) (by decide) asc_colon H4.out).mono ?_); rintro e w1 ⟨rfl, hb⟩; have HB := Lib.hid hb; clear hb) | (go_at_call 176; go_must (refine (mLower_q2 _ x _ HS.out HX.out).mono ?_); rintro e w2 ⟨rfl, hb⟩; have HB2 := Lib.hid (HB.out.trans (hb.mono HB.out.size)); clear hb))
          go_ret
          exact ⟨by rw [HR.out]; rfl, HB2.out⟩
        · rw [t1, t2, t3] at hbad
          have HR := Lib.hid (show z = s by rw [← HV.out, hbad]; rfl); clear hbad HV
          go_enter Tryz.func146, Tryz.ntmps146
          go_wp2_with (first | (go_at_call 105; go_must (refine (any_v s _ (k : Int) _ hs (by decide) (by decide) asc_colon H4.out).mono ?_); rintro e w1 ⟨rfl, hb⟩; have HB := Lib.hid hb; clear hb) | (go_at_call 176; go_must (refine (mLower_q2 _ x _ HS.out HX.out).mono ?_); rintro e w2 ⟨rfl, hb⟩; have HB2 := Lib.hid (HB.out.trans (hb.mono HB.out.size)); clear hb))
          go_ret
          exact ⟨by rw [HR.out]; rfl, HB2.out⟩
      · rw [t1, t2] at hbad
        have HR := Lib.hid (show z = s by rw [← HV.out, hbad]; rfl); clear hbad HV
        go_enter Tryz.func146, Tryz.ntmps146
        go_wp2_with (first | (go_at_call 105; go_must (refine (any_v s _ (k : Int) _ hs (by decide) (by decide) asc_colon H4.out).mono ?_); rintro e w1 ⟨rfl, hb⟩; have HB := Lib.hid hb; clear hb) | (go_at_call 176; go_must (refine (mLower_q2 _ x _ HS.out HX.out).mono ?_); rintro e w2 ⟨rfl, hb⟩; have HB2 := Lib.hid (HB.out.trans (hb.mono HB.out.size)); clear hb))
        go_ret
        exact ⟨by rw [HR.out]; rfl, HB2.out⟩
    · rw [t1] at hbad
      have HR := Lib.hid (show z = s by rw [← HV.out, hbad]; rfl); clear hbad HV
      go_enter Tryz.func146, Tryz.ntmps146
      go_wp2_with (first | (go_at_call 105; go_must (refine (any_v s _ (k : Int) _ hs (by decide) (by decide) asc_colon H4.out).mono ?_); rintro e w1 ⟨rfl, hb⟩; have HB := Lib.hid hb; clear hb) | (go_at_call 176; go_must (refine (mLower_q2 _ x _ HS.out HX.out).mono ?_); rintro e w2 ⟨rfl, hb⟩; have HB2 := Lib.hid (HB.out.trans (hb.mono HB.out.size)); clear hb))
      go_ret
      exact ⟨by rw [HR.out]; rfl, HB2.out⟩


/-- what the address is, escaped -/
theorem dest_of (d z : ByteArray) (h : (if badB d.data.toList = true then ⟨#[35]⟩ else d : ByteArray) = z) : escL z.data.toList = destH d.data.toList := by
  subst h
  unfold destH
  split
  · rfl
  · rfl
theorem dest_size (d z : ByteArray) (h : (if badB d.data.toList = true then ⟨#[35]⟩ else d : ByteArray) = z) : z.size ≤ d.size + 1 := by
  subst h
  split
  · show 1 ≤ _; omega
  · omega

set_option maxRecDepth 100000 in
theorem safeDest_q (s z : ByteArray) (w : World) (hs : s.size ≤ 1048576) (h : (⟨(destH s.data.toList).toArray⟩ : ByteArray) = z) :
    Calls Tryz.prog 116 #[.string s] w fun e w' => e = .returned (.string z) ∧ Below w.heap.size w w' := by
  unfold destH at h
  cases hb : badB s.data.toList with
  | true =>
    rw [if_pos hb] at h
    have C1 := Lib.hid (fun w => safeScheme_q s false w hs (by rw [hb]; rfl))
    subst h
    clear hb
    go_enter Tryz.func116, Tryz.ntmps116
    go_wp2_with (go_at_call 157; go_must (refine (C1.out _).mono ?_); rintro e w1 ⟨rfl, hb⟩; have HB := Lib.hid hb; clear hb)
    go_ret
    exact ⟨rfl, HB.out⟩
  | false =>
    rw [if_neg (by rw [hb]; decide)] at h
    have C1 := Lib.hid (fun w => safeScheme_q s true w hs (by rw [hb]; rfl))
    have C2 := Lib.hid (fun w => escaped_q2 s z w h (by omega))
    clear h hb
    go_enter Tryz.func116, Tryz.ntmps116
    go_wp2_with (first
      | (go_at_call 157; go_must (refine (C1.out _).mono ?_); rintro e w1 ⟨rfl, hb⟩; have HB := Lib.hid hb; clear hb)
      | (go_at_call 78; go_must (refine (C2.out _).mono ?_); rintro e w2 ⟨rfl, hw2⟩; obtain rfl := hw2))
    go_ret
    exact ⟨rfl, HB.out⟩

theorem esc_size (s z : ByteArray) (h : (⟨(escL s.data.toList).toArray⟩ : ByteArray) = z) : z.size ≤ 6 * s.size := by
  subst h
  have := escL_le s.data.toList
  rw [size_toList] at this
  exact this
set_option maxRecDepth 100000 in
theorem titled_q (s z : ByteArray) (w : World) (hs : s.size ≤ 1048576) (h : (⟨(titlH s.data.toList).toArray⟩ : ByteArray) = z) :
    Calls Tryz.prog 117 #[.string s] w fun e w' => e = .returned (.string z) ∧ w = w' := by
  by_cases h0 : s.data.toList = []
  · have t0 : s.toList.isEmpty = true := by rw [Go.ByteArray.toList_eq, h0]; rfl
    rw [h0] at h
    subst h
    go_enter Tryz.func117, Tryz.ntmps117
    go_wp2_with fail
    go_ret
    exact ⟨rfl, rfl⟩
  · have t0 : s.toList.isEmpty = false := by rw [Go.ByteArray.toList_eq, List.isEmpty_eq_false_iff]; exact h0
    obtain ⟨u, hu⟩ : ∃ u : ByteArray, (⟨(escL s.data.toList).toArray⟩ : ByteArray) = u := ⟨_, rfl⟩
    have hz : z.data.toList = hT1 ++ u.data.toList ++ hQ := by rw [← h, ← hu]; unfold titlH; rw [if_neg h0]
    have hus := esc_size s u hu
    have C2 := Lib.hid (fun w => escaped_q2 s u w hu (by omega))
    have HZ := Lib.hid hz; clear hz hu h h0
    go_enter Tryz.func117, Tryz.ntmps117
    go_wp2_with (go_at_call 78; go_must (refine (C2.out _).mono ?_); rintro e w2 ⟨rfl, hw2⟩; obtain rfl := hw2)
    go_ret
    exact ⟨ret_string (by rw [HZ.out]; simp [hT1, hQ]), rfl⟩

/-! what follows the dots -/
theorem cutI_cases : ∀ l : List UInt8, (Lib.indexAny l [32, 9] = -1 ∧ cutI l = l) ∨ ∃ k : Nat, Lib.indexAny l [32, 9] = k ∧ k ≤ l.length ∧ cutI l = l.take k
  | [] => Or.inl ⟨by simp [Lib.indexAny], rfl⟩
  | c :: r => by
    by_cases h2 : c = 32 ∨ c = 9
    · refine Or.inr ⟨0, ?_, Nat.zero_le _, by rw [cutI, if_pos h2]; rfl⟩
      rcases h2 with rfl | rfl <;> simp [Lib.indexAny]
    · have hc : ([32, 9] : List UInt8).contains c = false := by
        simp only [List.contains_cons, List.contains_nil, Bool.or_false, Bool.or_eq_false_iff, beq_eq_false_iff_ne]
        exact ⟨fun h => h2 (Or.inl h), fun h => h2 (Or.inr h)⟩
      have e2 : Lib.indexAny (c :: r) [32, 9] = if Lib.indexAny r [32, 9] == -1 then -1 else Lib.indexAny r [32, 9] + 1 := by rw [Lib.indexAny, hc]; rfl
      have e1 : cutI (c :: r) = c :: cutI r := by rw [cutI, if_neg h2]
      rw [e1, e2]
      rcases cutI_cases r with ⟨h3, h4⟩ | ⟨k, h3, h4, h5⟩
      · exact Or.inl ⟨by rw [h3]; rfl, by rw [h4]⟩
      · refine Or.inr ⟨k + 1, ?_, by rw [List.length_cons]; omega, by rw [h5]; rfl⟩
        rw [h3, if_neg (by simp)]; omega
theorem asc_blank : Asc ⟨#[32, 9]⟩ := by intro b hb; simp at hb; rcases hb with rfl | rfl <;> decide

set_option maxRecDepth 100000 in
theorem info_q (s z : ByteArray) (w : World) (hs : s.size ≤ 1048576) (h : (⟨(infoH s.data.toList).toArray⟩ : ByteArray) = z) :
    Calls Tryz.prog 80 #[.string s] w fun e w' => e = .returned (.string z) ∧ Below w.heap.size w w' := by
  by_cases h0 : s.data.toList = []
  · have t0 : s.toList.isEmpty = true := by rw [Go.ByteArray.toList_eq, h0]; rfl
    rw [h0] at h
    subst h
    go_enter Tryz.func80, Tryz.ntmps80
    go_wp2_with fail
    go_ret
    exact ⟨rfl, Below.refl _ _⟩
  · have t0 : s.toList.isEmpty = false := by rw [Go.ByteArray.toList_eq, List.isEmpty_eq_false_iff]; exact h0
    obtain ⟨y, hy⟩ : ∃ y : ByteArray, (⟨(cutI s.data.toList).toArray⟩ : ByteArray) = y := ⟨_, rfl⟩
    have hyl : y.data.toList = cutI s.data.toList := by rw [← hy]
    obtain ⟨u, hu⟩ : ∃ u : ByteArray, (⟨(escL y.data.toList).toArray⟩ : ByteArray) = u := ⟨_, rfl⟩
    have hys : y.size ≤ s.size := by
      have := cutI_le s.data.toList
      rw [← size_toList, hyl, ← size_toList]; exact this
    have hus := esc_size y u hu
    have hz : z.data.toList = hPre1 ++ (hCls ++ u.data.toList ++ hQ) ++ hGt := by rw [← h, ← hu, hyl]; unfold infoH; rw [if_neg h0]
    have C2 := Lib.hid (fun w => escaped_q2 y u w hu (by omega))
    have HZ := Lib.hid hz; clear hz hu h h0
    rcases cutI_cases s.data.toList with ⟨h3, h4⟩ | ⟨k, h3, h4, h5⟩
    · have hye : y = s := bytes_ext (by rw [hyl, h4])
      have C1 := Lib.hid (fun w => any_v s ⟨#[32, 9]⟩ (-1) w hs (by decide) (by decide) asc_blank h3)
      have HYe := Lib.hid hye
      clear h3 h4 hyl hy hye
      go_enter Tryz.func80, Tryz.ntmps80
      go_wp2_with (first
        | (go_at_call 105; go_must (refine (C1.out _).mono ?_); rintro e w1 ⟨rfl, hb⟩; have HB := Lib.hid hb; clear hb)
        | (go_at_call 78; go_must (rw [← HYe.out]); go_must (refine (C2.out _).mono ?_); rintro e w2 ⟨rfl, hw2⟩; obtain rfl := hw2))
      go_ret
      exact ⟨ret_string (by rw [HZ.out]; simp [hPre1, hCls, hQ, hGt]), HB.out⟩
    · have hye : s.extract 0 k = y := bytes_ext (by rw [cut_list, hyl, h5])
      have hks : k ≤ s.size := by rw [← size_toList]; exact h4
      have C1 := Lib.hid (fun w => any_v s ⟨#[32, 9]⟩ (k : Int) w hs (by decide) (by decide) asc_blank h3)
      clear h3 h4 h5 hyl hy
      go_enter Tryz.func80, Tryz.ntmps80
      go_wp2_with (first
        | (go_at_call 105; go_must (refine (C1.out _).mono ?_); rintro e w1 ⟨rfl, hb⟩; have HB := Lib.hid hb; clear hb)
        | (go_at_call 78; go_must (refine (C2.out _).mono ?_); rintro e w2 ⟨rfl, hw2⟩; obtain rfl := hw2))
      go_ret
      exact ⟨ret_string (by rw [HZ.out]; simp [hPre1, hCls, hQ, hGt]), HB.out⟩
end Go.Proofs.YtikijmjcmpkkdaaGreatDoor

namespace Go.Proofs.YtikijmjcmpkkdaaGreatDoor
open Go.RowKit Go.Deep

theorem neN5 : (45 : TypeId) ≠ 5 := by decide
abbrev nodeC (n : Node) (kv : Value) : Array Value := #[.int .i64 n.kind, .int .i64 n.level, .string n.text, .string n.dest, .string n.title, kv]
theorem CB.six {w : World} {g : Nat} {n : Node} {kv : Value} (h : CB w g 45 (nodeC n kv)) : w.cell? ⟨g, 0, none⟩ = some (.int .i64 n.kind) ∧ w.cell? ⟨g, 1, none⟩ = some (.int .i64 n.level) ∧ w.cell? ⟨g, 2, none⟩ = some (.string n.text) ∧ w.cell? ⟨g, 3, none⟩ = some (.string n.dest) ∧ w.cell? ⟨g, 4, none⟩ = some (.string n.title) ∧ w.cell? ⟨g, 5, none⟩ = some kv :=
  ⟨h.c 0, h.c 1, h.c 2, h.c 3, h.c 4, h.c 5⟩

theorem inl_11 {n : Node} {t d ti ks : List UInt8} (h : n.kind = 11) : inlN n.kind t d ti ks = escL t := by rw [h]; simp [inlN]
theorem inl_12 {n : Node} {t d ti ks : List UInt8} (h : n.kind = 12) : inlN n.kind t d ti ks = hNl := by rw [h]; simp [inlN]
theorem inl_13 {n : Node} {t d ti ks : List UInt8} (h : n.kind = 13) : inlN n.kind t d ti ks = hBr := by rw [h]; simp [inlN]
theorem inl_14 {n : Node} {t d ti ks : List UInt8} (h : n.kind = 14) : inlN n.kind t d ti ks = hEm1 ++ ks ++ hEm2 := by rw [h]; simp [inlN]
theorem inl_15 {n : Node} {t d ti ks : List UInt8} (h : n.kind = 15) : inlN n.kind t d ti ks = hSt1 ++ ks ++ hSt2 := by rw [h]; simp [inlN]
theorem inl_16 {n : Node} {t d ti ks : List UInt8} (h : n.kind = 16) : inlN n.kind t d ti ks = hCo1 ++ escL t ++ hCo2 := by rw [h]; simp [inlN]
theorem inl_17 {n : Node} {t d ti ks : List UInt8} (h : n.kind = 17) : inlN n.kind t d ti ks = hA1 ++ destH d ++ hQ ++ titlH ti ++ hGt ++ ks ++ hA2 := by rw [h]; simp [inlN]
theorem inl_18 {n : Node} {t d ti ks : List UInt8} (h : n.kind = 18) : inlN n.kind t d ti ks = hI1 ++ destH d ++ hI2 ++ escL t ++ hQ ++ titlH ti ++ hGt := by rw [h]; simp [inlN]
theorem inl_no {n : Node} {t d ti ks : List UInt8} (h : n.kind ≠ 11 ∧ n.kind ≠ 12 ∧ n.kind ≠ 13 ∧ n.kind ≠ 14 ∧ n.kind ≠ 15 ∧ n.kind ≠ 16 ∧ n.kind ≠ 17 ∧ n.kind ≠ 18) : inlN n.kind t d ti ks = [] := by obtain ⟨h1, h2, h3, h4, h5, h6, h7, h8⟩ := h; simp [inlN, h1, h2, h3, h4, h5, h6, h7, h8]

set_option maxRecDepth 100000 in
set_option maxHeartbeats 2000000 in
theorem title_q {w0 : World} {b : Nat} {full : List UInt8} {ids : List (List UInt8)} (n : Node) (A : Option Addr) (m c : Nat) (w : World) (h : HW w0 b full ids w) (hs : n.title.size ≤ 1048576) :
    Calls Tryz.prog 147 #[.pointer (some ⟨b, 0, none⟩), nodeV n (.slice A m c)] w (WPost w0 b (full ++ (titlH n.title.data.toList ++ hGt)) ids w) := by
  have H0 := Lib.hid (h.alloc (nodeBox n (.slice A m c)))
  have K0 := Lib.hid (KeepB.alloc b w (nodeBox n (.slice A m c)))
  have C0 := Lib.hid (show CB (w.alloc (nodeBox n (.slice A m c))) w.heap.size 45 (nodeC n (.slice A m c)) from CB.new _ _ _)
  have hgne : w.heap.size ≠ b := by have := h.lt; omega
  by_cases h0 : n.title.data.toList = []
  · have t0 : n.title.toList.isEmpty = true := by rw [Go.ByteArray.toList_eq, h0]; rfl
    have HT := Lib.hid (show titlH n.title.data.toList = [] by unfold titlH; rw [if_pos h0])
    clear h h0
    go_enter Tryz.func147, Tryz.ntmps147
    go_wp2_with fail
    go_must (refine (put_at [⟨#[62]⟩] 1 rfl (by omega) _ rfl _ H0.out ⟨(by decide), trivial⟩ _ (by first | rfl | simp)).mono ?_)
    rintro e w1 ⟨rfl, hw, hk⟩
    have HW1 := Lib.hid hw
    have HK1 := Lib.hid (K0.out.trans hk)
    have CB1 := Lib.hid (hk _ _ _ C0.out neN5 hgne)
    clear hw hk
    obtain ⟨b10, b11, b12, b13, b14, b15⟩ := CB1.out.six
    go_wp2_with fail
    go_end0
    exact ⟨rfl, HW1.out.eq (by rw [HT.out]; simp [hGt]), HK1.out⟩
  · have t0 : n.title.toList.isEmpty = false := by rw [Go.ByteArray.toList_eq, List.isEmpty_eq_false_iff]; exact h0
    obtain ⟨z, hz⟩ : ∃ z : ByteArray, (⟨(escL n.title.data.toList).toArray⟩ : ByteArray) = z := ⟨_, rfl⟩
    have HT := Lib.hid (show titlH n.title.data.toList = hT1 ++ z.data.toList ++ hQ by unfold titlH; rw [if_neg h0, ← hz])
    have hzs := esc_size n.title z hz
    have HE := Lib.hid (fun w => escape_q n.title z w hz (by omega))
    clear h h0 hz
    go_enter Tryz.func147, Tryz.ntmps147
    go_wp2_with fail
    go_must (refine (HE.out _).mono ?_)
    rintro e w1 ⟨rfl, hb⟩
    have HW1 := Lib.hid (H0.out.more hb)
    have HK1 := Lib.hid (K0.out.trans (KeepB.of_below hb))
    have CB1 := Lib.hid (C0.out.below hb)
    clear hb
    obtain ⟨b10, b11, b12, b13, b14, b15⟩ := CB1.out.six
    go_wp2_with fail
    go_must (refine (put_at [⟨#[32, 116, 105, 116, 108, 101, 61, 34]⟩, z, ⟨#[34]⟩] 3 rfl (by omega) _ rfl _ HW1.out ⟨(by decide), (by omega), (by decide), trivial⟩ _ (by first | rfl | simp)).mono ?_)
    rintro e w2 ⟨rfl, hw, hk⟩
    have HW2 := Lib.hid hw
    have HK2 := Lib.hid (HK1.out.trans hk)
    have CB2 := Lib.hid (hk _ _ _ CB1.out neN5 hgne)
    clear hw hk
    obtain ⟨b20, b21, b22, b23, b24, b25⟩ := CB2.out.six
    go_wp2_with fail
    go_must (refine (put_at [⟨#[62]⟩] 1 rfl (by omega) _ rfl _ HW2.out ⟨(by decide), trivial⟩ _ (by first | rfl | simp)).mono ?_)
    rintro e w3 ⟨rfl, hw, hk⟩
    have HW3 := Lib.hid hw
    have HK3 := Lib.hid (HK2.out.trans hk)
    have CB3 := Lib.hid (hk _ _ _ CB2.out neN5 hgne)
    clear hw hk
    obtain ⟨b30, b31, b32, b33, b34, b35⟩ := CB3.out.six
    go_wp2_with fail
    go_end0
    exact ⟨rfl, HW3.out.eq (by rw [HT.out]; simp [hGt, hT1, hQ]), HK3.out⟩

set_option maxRecDepth 100000 in
set_option maxHeartbeats 2000000 in
theorem element_q {w0 : World} {b : Nat} {full : List UInt8} {ids : List (List UInt8)} (n : Node) (nm : ByteArray) (A : Option Addr) (c : Nat) (w : World) (h : HW w0 b full ids w) (hnm : nm.size ≤ 1000)
    (hin : ∀ (full : List UInt8) (w : World), HW w0 b full ids w → Calls Tryz.prog 103 #[.pointer (some ⟨b, 0, none⟩), .slice A n.kids.length c] w (WPost w0 b (full ++ inlL n.kids) ids w)) :
    Calls Tryz.prog 104 #[.pointer (some ⟨b, 0, none⟩), .string nm, nodeV n (.slice A n.kids.length c)] w (WPost w0 b (full ++ cellH nm.data.toList n) ids w) := by
  have H0 := Lib.hid (h.alloc (nodeBox n (.slice A n.kids.length c)))
  have K0 := Lib.hid (KeepB.alloc b w (nodeBox n (.slice A n.kids.length c)))
  have C0 := Lib.hid (show CB (w.alloc (nodeBox n (.slice A n.kids.length c))) w.heap.size 45 (nodeC n (.slice A n.kids.length c)) from CB.new _ _ _)
  have hgne : w.heap.size ≠ b := by have := h.lt; omega
  have HI := Lib.hid hin
  clear h hin
  go_enter Tryz.func104, Tryz.ntmps104
  go_wp2_with fail
  go_must (refine (put_at [⟨#[60]⟩, nm, ⟨#[62]⟩] 3 rfl (by omega) _ rfl _ H0.out ⟨(by decide), (by omega), (by decide), trivial⟩ _ (by first | rfl | simp)).mono ?_)
  rintro e w1 ⟨rfl, hw, hk⟩
  have HW1 := Lib.hid hw
  have HK1 := Lib.hid (K0.out.trans hk)
  have CB1 := Lib.hid (hk _ _ _ C0.out neN5 hgne)
  clear hw hk
  obtain ⟨b10, b11, b12, b13, b14, b15⟩ := CB1.out.six
  go_wp2_with fail
  go_must (refine (HI.out _ _ HW1.out).mono ?_)
  rintro e w2 ⟨rfl, hw, hk⟩
  have HW2 := Lib.hid hw
  have HK2 := Lib.hid (HK1.out.trans hk)
  have CB2 := Lib.hid (hk _ _ _ CB1.out neN5 hgne)
  clear hw hk
  obtain ⟨b20, b21, b22, b23, b24, b25⟩ := CB2.out.six
  go_wp2_with fail
  go_must (refine (put_at [⟨#[60, 47]⟩, nm, ⟨#[62]⟩] 3 rfl (by omega) _ rfl _ HW2.out ⟨(by decide), (by omega), (by decide), trivial⟩ _ (by first | rfl | simp)).mono ?_)
  rintro e w3 ⟨rfl, hw, hk⟩
  have HW3 := Lib.hid hw
  have HK3 := Lib.hid (HK2.out.trans hk)
  have CB3 := Lib.hid (hk _ _ _ CB2.out neN5 hgne)
  clear hw hk
  obtain ⟨b30, b31, b32, b33, b34, b35⟩ := CB3.out.six
  go_wp2_with fail
  go_end0
  exact ⟨rfl, HW3.out.eq (by simp [cellH, hLt, hGt, hLs]), HK3.out⟩

set_option maxRecDepth 100000 in
set_option maxHeartbeats 8000000 in
theorem inlines_any (w0 : World) (b : Nat) (N : Nat) : ∀ (l : List Node) (v : Value) (full : List UInt8) (ids : List (List UInt8)) (w : World), SizeOf.sizeOf l ≤ N → NodesAt w0 v l → weight l ≤ 1048576 → HW w0 b full ids w →
    Calls Tryz.prog 103 #[.pointer (some ⟨b, 0, none⟩), v] w (WPost w0 b (full ++ inlL l) ids w) := by
  induction N with
  | zero =>
    intro l v full ids w hN
    cases l <;> simp at hN
  | succ N ih =>
    intro l v full ids w hN h ht hW0
    obtain ⟨An, c, bl, o, kv, rfl, hlc, hc, hA, hcell, hkid⟩ := h.inv
    unfold maxLen at hc
    have HCell := Lib.hid hcell; clear hcell
    have HKid := Lib.hid hkid; clear hkid
    have HN := Lib.hid hN; clear hN
    have HI := Lib.hid ih; clear ih
    have H00 := Lib.hid hW0; clear hW0
    clear h
    go_enter Tryz.func103, Tryz.ntmps103
    go_wp2_with fail
    go_loopw [8] (fun t wr => ∃ (k : Nat), k ≤ l.length ∧ t = .int .i64 k ∧ Hid (HW w0 b (full ++ inlL (l.take k)) ids wr) ∧ Hid (KeepB b w wr)) (fun t _ => l.length - (intOf t).toNat)
    case atStart => exact ⟨0, Nat.zero_le _, rfl, H00.out.eq (by rw [List.take_zero, inlL_nil, List.append_nil]), KeepB.refl _ _⟩
    case round =>
      obtain ⟨k, hk, rfl, hW, hKB⟩ := hrel
      by_cases hlt : k < l.length
      · have hA' := hA (by rintro rfl; simp at hlt)
        subst hA'
        obtain ⟨n, hn⟩ : ∃ n, l[k]? = some n := ⟨_, List.getElem?_eq_getElem hlt⟩
        obtain ⟨p0, p1, p2, p3, p4, p5, _, _, _, _, _⟩ := (HCell.out k n hn).keep hW.out.keeps
        have bb := World.block_lt_of_cell? _ _ p5
        simp only at bb
        have hkid := HKid.out k n hn
        obtain ⟨A3, c3, b3, o3, k3, e3, _, _, _, _, _⟩ := hkid.inv
        rw [e3] at hkid p5
        have HKd := Lib.hid hkid; clear hkid
        have HSz := Lib.hid (size_at HN.out hn)
        have hwt := weight_take hn
        have hwk : weight n.kids ≤ 1048576 := by omega
        have hts : n.text.size ≤ 1048576 := by omega
        have hds : n.dest.size ≤ 1048576 := by omega
        have his : n.title.size ≤ 1048576 := by omega
        have HTk := Lib.hid (inlL_take hn)
        have H0 := Lib.hid (hW.out.alloc (nodeBox n (.slice A3 n.kids.length c3)))
        have K0 := Lib.hid (hKB.out.trans (KeepB.alloc b wr (nodeBox n (.slice A3 n.kids.length c3))))
        have C0 := Lib.hid (show CB (wr.alloc (nodeBox n (.slice A3 n.kids.length c3))) wr.heap.size 45 (nodeC n (.slice A3 n.kids.length c3)) from CB.new _ _ _)
        have hgne : wr.heap.size ≠ b := by have := hW.out.lt; omega
        have HIk := Lib.hid (fun full w h => HI.out n.kids (.slice A3 n.kids.length c3) full ids w HSz.out HKd.out hwk h)
        clear hn hA e3 hwt
        obtain ⟨zt, hzt⟩ : ∃ z : ByteArray, (⟨(escL n.text.data.toList).toArray⟩ : ByteArray) = z := ⟨_, rfl⟩
        have hzts := esc_size n.text zt hzt
        have hztl : escL n.text.data.toList = zt.data.toList := by rw [← hzt]
        have HEt := Lib.hid (fun w => escape_q n.text zt w hzt (by omega))
        obtain ⟨y, hy⟩ : ∃ y : ByteArray, (if badB n.dest.data.toList = true then ⟨#[35]⟩ else n.dest : ByteArray) = y := ⟨_, rfl⟩
        obtain ⟨zd, hzd⟩ : ∃ z : ByteArray, (⟨(escL y.data.toList).toArray⟩ : ByteArray) = z := ⟨_, rfl⟩
        have hys := dest_size n.dest y hy
        have hzds := esc_size y zd hzd
        have hzdl : destH n.dest.data.toList = zd.data.toList := by rw [← hzd, dest_of n.dest y hy]
        have HAd := Lib.hid (fun w => address_q n.dest y w hds hy)
        have HEd := Lib.hid (fun w => escape_q y zd w hzd (by omega))
        have HZt := Lib.hid hztl
        have HZd := Lib.hid hzdl
        clear hzt hztl hy hzd hzdl
        have hx : n.kind = 11 ∨ n.kind = 12 ∨ n.kind = 13 ∨ n.kind = 14 ∨ n.kind = 15 ∨ n.kind = 16 ∨ n.kind = 17 ∨ n.kind = 18 ∨ (n.kind ≠ 11 ∧ n.kind ≠ 12 ∧ n.kind ≠ 13 ∧ n.kind ≠ 14 ∧ n.kind ≠ 15 ∧ n.kind ≠ 16 ∧ n.kind ≠ 17 ∧ n.kind ≠ 18) := by omega
        rcases hx with hx | hx | hx | hx | hx | hx | hx | hx | hx
        · have HPN := Lib.hid (show inl1 n = _ from inl_11 hx)
          have t11 : (n.kind == 11) = true := by simp; omega
          have t12 : (n.kind == 12) = false := by simp; omega
          have t13 : (n.kind == 13) = false := by simp; omega
          have t14 : (n.kind == 14) = false := by simp; omega
          have t15 : (n.kind == 15) = false := by simp; omega
          have t16 : (n.kind == 16) = false := by simp; omega
          have t17 : (n.kind == 17) = false := by simp; omega
          have t18 : (n.kind == 18) = false := by simp; omega
          clear hx
          go_wp2_with fail
          go_must (refine (HEt.out _).mono ?_)
          rintro e w1 ⟨rfl, hb⟩
          have HW1 := Lib.hid (H0.out.more hb)
          have HK1 := Lib.hid (K0.out.trans (KeepB.of_below hb))
          have CB1 := Lib.hid (C0.out.below hb)
          clear hb
          obtain ⟨b10, b11, b12, b13, b14, b15⟩ := CB1.out.six
          go_wp2_with fail
          go_must (refine (put_at [zt] 1 rfl (by omega) _ rfl _ HW1.out ⟨(by omega), trivial⟩ _ (by first | rfl | simp)).mono ?_)
          rintro e w2 ⟨rfl, hw, hk⟩
          have HW2 := Lib.hid hw
          have HK2 := Lib.hid (HK1.out.trans hk)
          have CB2 := Lib.hid (hk _ _ _ CB1.out neN5 hgne)
          clear hw hk
          obtain ⟨b20, b21, b22, b23, b24, b25⟩ := CB2.out.six
          go_wp2_with fail
          go_roundw
          case rel => exact ⟨k + 1, by omega, by go_num, HW2.out.eq (by rw [HTk.out, HPN.out]; simp [HZt.out]), HK2.out⟩
          case measure => simp [intOf]; omega
        · have HPN := Lib.hid (show inl1 n = _ from inl_12 hx)
          have t11 : (n.kind == 11) = false := by simp; omega
          have t12 : (n.kind == 12) = true := by simp; omega
          have t13 : (n.kind == 13) = false := by simp; omega
          have t14 : (n.kind == 14) = false := by simp; omega
          have t15 : (n.kind == 15) = false := by simp; omega
          have t16 : (n.kind == 16) = false := by simp; omega
          have t17 : (n.kind == 17) = false := by simp; omega
          have t18 : (n.kind == 18) = false := by simp; omega
          clear hx
          go_wp2_with fail
          go_must (refine (put_at [⟨#[10]⟩] 1 rfl (by omega) _ rfl _ H0.out ⟨(by decide), trivial⟩ _ (by first | rfl | simp)).mono ?_)
          rintro e w1 ⟨rfl, hw, hk⟩
          have HW1 := Lib.hid hw
          have HK1 := Lib.hid (K0.out.trans hk)
          have CB1 := Lib.hid (hk _ _ _ C0.out neN5 hgne)
          clear hw hk
          obtain ⟨b10, b11, b12, b13, b14, b15⟩ := CB1.out.six
          go_wp2_with fail
          go_roundw
          case rel => exact ⟨k + 1, by omega, by go_num, HW1.out.eq (by rw [HTk.out, HPN.out]; simp [hNl]), HK1.out⟩
          case measure => simp [intOf]; omega
        · have HPN := Lib.hid (show inl1 n = _ from inl_13 hx)
          have t11 : (n.kind == 11) = false := by simp; omega
          have t12 : (n.kind == 12) = false := by simp; omega
          have t13 : (n.kind == 13) = true := by simp; omega
          have t14 : (n.kind == 14) = false := by simp; omega
          have t15 : (n.kind == 15) = false := by simp; omega
          have t16 : (n.kind == 16) = false := by simp; omega
          have t17 : (n.kind == 17) = false := by simp; omega
          have t18 : (n.kind == 18) = false := by simp; omega
          clear hx
          go_wp2_with fail
          go_must (refine (put_at [⟨#[60, 98, 114, 62, 10]⟩] 1 rfl (by omega) _ rfl _ H0.out ⟨(by decide), trivial⟩ _ (by first | rfl | simp)).mono ?_)
          rintro e w1 ⟨rfl, hw, hk⟩
          have HW1 := Lib.hid hw
          have HK1 := Lib.hid (K0.out.trans hk)
          have CB1 := Lib.hid (hk _ _ _ C0.out neN5 hgne)
          clear hw hk
          obtain ⟨b10, b11, b12, b13, b14, b15⟩ := CB1.out.six
          go_wp2_with fail
          go_roundw
          case rel => exact ⟨k + 1, by omega, by go_num, HW1.out.eq (by rw [HTk.out, HPN.out]; simp [hBr]), HK1.out⟩
          case measure => simp [intOf]; omega
        · have HPN := Lib.hid (show inl1 n = _ from inl_14 hx)
          have t11 : (n.kind == 11) = false := by simp; omega
          have t12 : (n.kind == 12) = false := by simp; omega
          have t13 : (n.kind == 13) = false := by simp; omega
          have t14 : (n.kind == 14) = true := by simp; omega
          have t15 : (n.kind == 15) = false := by simp; omega
          have t16 : (n.kind == 16) = false := by simp; omega
          have t17 : (n.kind == 17) = false := by simp; omega
          have t18 : (n.kind == 18) = false := by simp; omega
          clear hx
          go_wp2_with fail
          go_must (refine (element_q n ⟨#[101, 109]⟩ A3 c3 _ H0.out (by decide) HIk.out).mono ?_)
          rintro e w1 ⟨rfl, hw, hk⟩
          have HW1 := Lib.hid hw
          have HK1 := Lib.hid (K0.out.trans hk)
          have CB1 := Lib.hid (hk _ _ _ C0.out neN5 hgne)
          clear hw hk
          obtain ⟨b10, b11, b12, b13, b14, b15⟩ := CB1.out.six
          go_wp2_with fail
          go_roundw
          case rel => exact ⟨k + 1, by omega, by go_num, HW1.out.eq (by rw [HTk.out, HPN.out]; simp [cellH, hLt, hGt, hLs, hEm1, hEm2]), HK1.out⟩
          case measure => simp [intOf]; omega
        · have HPN := Lib.hid (show inl1 n = _ from inl_15 hx)
          have t11 : (n.kind == 11) = false := by simp; omega
          have t12 : (n.kind == 12) = false := by simp; omega
          have t13 : (n.kind == 13) = false := by simp; omega
          have t14 : (n.kind == 14) = false := by simp; omega
          have t15 : (n.kind == 15) = true := by simp; omega
          have t16 : (n.kind == 16) = false := by simp; omega
          have t17 : (n.kind == 17) = false := by simp; omega
          have t18 : (n.kind == 18) = false := by simp; omega
          clear hx
          go_wp2_with fail
          go_must (refine (element_q n ⟨#[115, 116, 114, 111, 110, 103]⟩ A3 c3 _ H0.out (by decide) HIk.out).mono ?_)
          rintro e w1 ⟨rfl, hw, hk⟩
          have HW1 := Lib.hid hw
          have HK1 := Lib.hid (K0.out.trans hk)
          have CB1 := Lib.hid (hk _ _ _ C0.out neN5 hgne)
          clear hw hk
          obtain ⟨b10, b11, b12, b13, b14, b15⟩ := CB1.out.six
          go_wp2_with fail
          go_roundw
          case rel => exact ⟨k + 1, by omega, by go_num, HW1.out.eq (by rw [HTk.out, HPN.out]; simp [cellH, hLt, hGt, hLs, hSt1, hSt2]), HK1.out⟩
          case measure => simp [intOf]; omega
        · have HPN := Lib.hid (show inl1 n = _ from inl_16 hx)
          have t11 : (n.kind == 11) = false := by simp; omega
          have t12 : (n.kind == 12) = false := by simp; omega
          have t13 : (n.kind == 13) = false := by simp; omega
          have t14 : (n.kind == 14) = false := by simp; omega
          have t15 : (n.kind == 15) = false := by simp; omega
          have t16 : (n.kind == 16) = true := by simp; omega
          have t17 : (n.kind == 17) = false := by simp; omega
          have t18 : (n.kind == 18) = false := by simp; omega
          clear hx
          go_wp2_with fail
          go_must (refine (HEt.out _).mono ?_)
          rintro e w1 ⟨rfl, hb⟩
          have HW1 := Lib.hid (H0.out.more hb)
          have HK1 := Lib.hid (K0.out.trans (KeepB.of_below hb))
          have CB1 := Lib.hid (C0.out.below hb)
          clear hb
          obtain ⟨b10, b11, b12, b13, b14, b15⟩ := CB1.out.six
          go_wp2_with fail
          go_must (refine (put_at [⟨#[60, 99, 111, 100, 101, 62]⟩, zt, ⟨#[60, 47, 99, 111, 100, 101, 62]⟩] 3 rfl (by omega) _ rfl _ HW1.out ⟨(by decide), (by omega), (by decide), trivial⟩ _ (by first | rfl | simp)).mono ?_)
          rintro e w2 ⟨rfl, hw, hk⟩
          have HW2 := Lib.hid hw
          have HK2 := Lib.hid (HK1.out.trans hk)
          have CB2 := Lib.hid (hk _ _ _ CB1.out neN5 hgne)
          clear hw hk
          obtain ⟨b20, b21, b22, b23, b24, b25⟩ := CB2.out.six
          go_wp2_with fail
          go_roundw
          case rel => exact ⟨k + 1, by omega, by go_num, HW2.out.eq (by rw [HTk.out, HPN.out]; simp [hCo1, hCo2, HZt.out]), HK2.out⟩
          case measure => simp [intOf]; omega
        · have HPN := Lib.hid (show inl1 n = _ from inl_17 hx)
          have t11 : (n.kind == 11) = false := by simp; omega
          have t12 : (n.kind == 12) = false := by simp; omega
          have t13 : (n.kind == 13) = false := by simp; omega
          have t14 : (n.kind == 14) = false := by simp; omega
          have t15 : (n.kind == 15) = false := by simp; omega
          have t16 : (n.kind == 16) = false := by simp; omega
          have t17 : (n.kind == 17) = true := by simp; omega
          have t18 : (n.kind == 18) = false := by simp; omega
          clear hx
          go_wp2_with fail
          go_must (refine (HAd.out _).mono ?_)
          rintro e w1 ⟨rfl, hb⟩
          have HW1 := Lib.hid (H0.out.more hb)
          have HK1 := Lib.hid (K0.out.trans (KeepB.of_below hb))
          have CB1 := Lib.hid (C0.out.below hb)
          clear hb
          obtain ⟨b10, b11, b12, b13, b14, b15⟩ := CB1.out.six
          go_wp2_with fail
          go_must (refine (HEd.out _).mono ?_)
          rintro e w2 ⟨rfl, hb⟩
          have HW2 := Lib.hid (HW1.out.more hb)
          have HK2 := Lib.hid (HK1.out.trans (KeepB.of_below hb))
          have CB2 := Lib.hid (CB1.out.below hb)
          clear hb
          obtain ⟨b20, b21, b22, b23, b24, b25⟩ := CB2.out.six
          go_wp2_with fail
          go_must (refine (put_at [⟨#[60, 97, 32, 104, 114, 101, 102, 61, 34]⟩, zd, ⟨#[34]⟩] 3 rfl (by omega) _ rfl _ HW2.out ⟨(by decide), (by omega), (by decide), trivial⟩ _ (by first | rfl | simp)).mono ?_)
          rintro e w3 ⟨rfl, hw, hk⟩
          have HW3 := Lib.hid hw
          have HK3 := Lib.hid (HK2.out.trans hk)
          have CB3 := Lib.hid (hk _ _ _ CB2.out neN5 hgne)
          clear hw hk
          obtain ⟨b30, b31, b32, b33, b34, b35⟩ := CB3.out.six
          go_wp2_with fail
          go_must (refine (title_q n A3 n.kids.length c3 _ HW3.out his).mono ?_)
          rintro e w4 ⟨rfl, hw, hk⟩
          have HW4 := Lib.hid hw
          have HK4 := Lib.hid (HK3.out.trans hk)
          have CB4 := Lib.hid (hk _ _ _ CB3.out neN5 hgne)
          clear hw hk
          obtain ⟨b40, b41, b42, b43, b44, b45⟩ := CB4.out.six
          go_wp2_with fail
          go_must (refine (HIk.out _ _ HW4.out).mono ?_)
          rintro e w5 ⟨rfl, hw, hk⟩
          have HW5 := Lib.hid hw
          have HK5 := Lib.hid (HK4.out.trans hk)
          have CB5 := Lib.hid (hk _ _ _ CB4.out neN5 hgne)
          clear hw hk
          obtain ⟨b50, b51, b52, b53, b54, b55⟩ := CB5.out.six
          go_wp2_with fail
          go_must (refine (put_at [⟨#[60, 47, 97, 62]⟩] 1 rfl (by omega) _ rfl _ HW5.out ⟨(by decide), trivial⟩ _ (by first | rfl | simp)).mono ?_)
          rintro e w6 ⟨rfl, hw, hk⟩
          have HW6 := Lib.hid hw
          have HK6 := Lib.hid (HK5.out.trans hk)
          have CB6 := Lib.hid (hk _ _ _ CB5.out neN5 hgne)
          clear hw hk
          obtain ⟨b60, b61, b62, b63, b64, b65⟩ := CB6.out.six
          go_wp2_with fail
          go_roundw
          case rel => exact ⟨k + 1, by omega, by go_num, HW6.out.eq (by rw [HTk.out, HPN.out]; simp [hA1, hQ, hA2, HZd.out]), HK6.out⟩
          case measure => simp [intOf]; omega
        · have HPN := Lib.hid (show inl1 n = _ from inl_18 hx)
          have t11 : (n.kind == 11) = false := by simp; omega
          have t12 : (n.kind == 12) = false := by simp; omega
          have t13 : (n.kind == 13) = false := by simp; omega
          have t14 : (n.kind == 14) = false := by simp; omega
          have t15 : (n.kind == 15) = false := by simp; omega
          have t16 : (n.kind == 16) = false := by simp; omega
          have t17 : (n.kind == 17) = false := by simp; omega
          have t18 : (n.kind == 18) = true := by simp; omega
          clear hx
          obtain ⟨b00, b01, b02, b03, b04, b05⟩ := C0.out.drew.six
          go_wp2_with fail
          go_region_with (first
            | (go_at_call 146; go_must (refine (HAd.out _).mono ?_); rintro e w1 ⟨rfl, hb⟩; have HW1 := Lib.hid (H0.out.drew.more hb); have HK1 := Lib.hid (K0.out.trans ((KeepB.drew _ _).trans (KeepB.of_below hb))); have CB1 := Lib.hid (C0.out.drew.below hb); clear hb; obtain ⟨b10, b11, b12, b13, b14, b15⟩ := CB1.out.six)
            | (go_at_call_of 102 y; go_must (refine (HEd.out _).mono ?_); rintro e w2 ⟨rfl, hb⟩; have HW2 := Lib.hid (HW1.out.more hb); have HK2 := Lib.hid (HK1.out.trans (KeepB.of_below hb)); have CB2 := Lib.hid (CB1.out.below hb); clear hb; obtain ⟨b20, b21, b22, b23, b24, b25⟩ := CB2.out.six)
            | (go_at_call_of 102 n.text; go_must (refine (HEt.out _).mono ?_); rintro e w3 ⟨rfl, hb⟩; have HW3 := Lib.hid (HW2.out.more hb); have HK3 := Lib.hid (HK2.out.trans (KeepB.of_below hb)); have CB3 := Lib.hid (CB2.out.below hb); clear hb; obtain ⟨b30, b31, b32, b33, b34, b35⟩ := CB3.out.six)
            | (go_at_call 63; go_must (refine (put_at [⟨#[60, 105, 109, 103, 32, 115, 114, 99, 61, 34]⟩, zd, ⟨#[34, 32, 97, 108, 116, 61, 34]⟩, zt, ⟨#[34]⟩] 5 rfl (by omega) _ rfl _ HW3.out ⟨(by decide), (by omega), (by decide), (by omega), (by decide), trivial⟩ _ (by first | rfl | simp)).mono ?_); rintro e w4 ⟨rfl, hw, hk⟩; have HW4 := Lib.hid hw; have HK4 := Lib.hid (HK3.out.trans hk); have CB4 := Lib.hid (hk _ _ _ CB3.out neN5 hgne); clear hw hk; obtain ⟨b40, b41, b42, b43, b44, b45⟩ := CB4.out.six))
          all_goals (
            go_wp2_with fail
            go_must (refine (title_q n A3 n.kids.length c3 _ HW4.out his).mono ?_)
            rintro e w5 ⟨rfl, hw, hk⟩
            have HW5 := Lib.hid hw
            have HK5 := Lib.hid (HK4.out.trans hk)
            have CB5 := Lib.hid (hk _ _ _ CB4.out neN5 hgne)
            clear hw hk
            obtain ⟨b50, b51, b52, b53, b54, b55⟩ := CB5.out.six
            go_wp2_with fail
            go_roundw
            case rel => exact ⟨k + 1, by omega, by go_num, HW5.out.eq (by rw [HTk.out, HPN.out]; simp [hI1, hI2, hQ, HZd.out, HZt.out]), HK5.out⟩
            case measure => simp [intOf]; omega)
        · have HPN := Lib.hid (show inl1 n = _ from inl_no hx)
          have t11 : (n.kind == 11) = false := by simp; omega
          have t12 : (n.kind == 12) = false := by simp; omega
          have t13 : (n.kind == 13) = false := by simp; omega
          have t14 : (n.kind == 14) = false := by simp; omega
          have t15 : (n.kind == 15) = false := by simp; omega
          have t16 : (n.kind == 16) = false := by simp; omega
          have t17 : (n.kind == 17) = false := by simp; omega
          have t18 : (n.kind == 18) = false := by simp; omega
          clear hx
          go_wp2_with fail
          go_roundw
          case rel => exact ⟨k + 1, by omega, by go_num, H0.out.eq (by rw [HTk.out, HPN.out]; simp), K0.out⟩
          case measure => simp [intOf]; omega
      · have hke : k = l.length := by omega
        subst hke
        rw [List.take_length] at hW
        go_wp2_with fail
        go_end0
        exact ⟨rfl, hW.out, hKB.out⟩

end Go.Proofs.YtikijmjcmpkkdaaGreatDoor
