/-
  strings.makeGenericReplacer at the ten strings of mark.Unescape: its tables.
-/
import Derived.Test.YtbhildmalcfhiaaGreatDoorUnSplit
import Derived.Deep.MidRow
namespace Go.Proofs.YtbhildmalcfhiaaGreatDoor
open Go.RowKit Go.Deep

/-- what mark.Unescape hands to NewReplacer -/
def oldU : List ByteArray := [⟨#[38, 97, 109, 112, 59]⟩, ⟨#[38]⟩, ⟨#[38, 108, 116, 59]⟩, ⟨#[60]⟩, ⟨#[38, 103, 116, 59]⟩, ⟨#[62]⟩, ⟨#[38, 113, 117, 111, 116, 59]⟩, ⟨#[34]⟩, ⟨#[38, 35, 51, 57, 59]⟩, ⟨#[39]⟩]
/-- the replacer's block: its size, its table, its numbers -/
def genL (ts : Int) (tbl : Value) (f : Nat → Nat) : List Value := [.string ⟨#[]⟩, .int .i64 0, .string ⟨#[]⟩, .pointer none, tbl, .int .i64 ts] ++ (List.range 256).map fun c => .int .u8 (f c : Int)
def genC (ts : Int) (tbl : Value) (f : Nat → Nat) : Array Value := (genL ts tbl f).toArray
theorem genC_size (ts : Int) (tbl : Value) (f : Nat → Nat) : (genC ts tbl f).size = 262 := by simp [genC, genL]
theorem genC_map (ts : Int) (tbl : Value) (f : Nat → Nat) {c : Nat} (h : c < 256) : (genC ts tbl f)[6 + c]? = some (.int .u8 (f c : Int)) := by
  unfold genC genL
  rw [List.getElem?_toArray, List.getElem?_append_right (by simp)]
  simp only [List.length_cons, List.length_nil]
  rw [show 6 + c - (0 + 1 + 1 + 1 + 1 + 1 + 1) = c by omega, List.getElem?_map, List.getElem?_range h]
  rfl
def updU (f : Nat → Nat) (c v : Nat) : Nat → Nat := fun d => if d = c then v else f d
theorem genC_set (ts : Int) (tbl : Value) (f : Nat → Nat) {c : Nat} (v : Nat) (h : c < 256) : (genC ts tbl f).setIfInBounds (6 + c) (.int .u8 (v : Int)) = genC ts tbl (updU f c v) := by
  apply Array.ext_getElem?
  intro i
  by_cases hi : i = 6 + c
  · subst hi
    rw [Array.getElem?_setIfInBounds_self, if_pos (by rw [genC_size]; omega), genC_map _ _ _ h]
    simp [updU]
  · rw [Array.getElem?_setIfInBounds_ne (by omega)]
    by_cases h6 : i < 6
    · unfold genC genL
      rw [List.getElem?_toArray, List.getElem?_toArray, List.getElem?_append_left (by simpa using h6), List.getElem?_append_left (by simpa using h6)]
    · obtain ⟨d, rfl⟩ : ∃ d, i = 6 + d := ⟨i - 6, by omega⟩
      by_cases hd : d < 256
      · rw [genC_map _ _ _ hd, genC_map _ _ _ hd]
        simp only [updU]
        rw [if_neg (by omega)]
      · rw [Array.getElem?_eq_none (by rw [genC_size]; omega), Array.getElem?_eq_none (by rw [genC_size]; omega)]
theorem genC_ts (ts ts' : Int) (tbl : Value) (f : Nat → Nat) : (genC ts tbl f).setIfInBounds 5 (.int .i64 ts') = genC ts' tbl f := by
  simp [genC, genL]
theorem genC_tbl (ts : Int) (tbl tbl' : Value) (f : Nat → Nat) : (genC ts tbl f).setIfInBounds 4 tbl' = genC ts tbl' f := by
  simp [genC, genL]
/-- one for a byte that was seen -/
def seenU (L : List UInt8) : Nat → Nat := fun d => if d ∈ L.map UInt8.toNat then 1 else 0
theorem seen_more (L : List UInt8) (c : UInt8) : updU (seenU L) c.toNat 1 = seenU (L ++ [c]) := by
  funext d
  simp only [updU, seenU, List.map_append, List.mem_append, List.map_cons, List.map_nil, List.mem_singleton]
  by_cases h : d = c.toNat
  · simp [h]
  · simp [h]
theorem List.take_append_getElem?_u {l : List UInt8} {j : Nat} {c : UInt8} (h : l[j]? = some c) : l.take (j + 1) = l.take j ++ [c] := by
  rw [List.take_add_one, h]; rfl
theorem info_byteU2 : (Tryz.prog.info? 5).map (fun i => (i.zero, i.size, i.bytes)) = some (some (.int .u8 0), 1, 1) := by kernel_rfl
theorem zeroGen : Tryz.zeroCells289 = genC 0 noTbl (seenU []) := by kernel_rfl
def preU : Nat → List UInt8
  | 0 => []
  | k + 1 => preU k ++ (oldU.getD (2 * k) ⟨#[]⟩).data.toList
/-- how many bytes below i were seen -/
def cntU : Nat → Nat
  | 0 => 0
  | i + 1 => cntU i + seenU (preU 5) i
theorem cntU_le : ∀ i, i ≤ 256 → cntU i ≤ 14 := by decide +kernel
theorem cntU_256 : cntU 256 = 14 := by decide +kernel
/-- the numbers after i bytes -/
def numU (i : Nat) : Nat → Nat := fun d => if d < i then (if seenU (preU 5) d = 1 then cntU d else 14) else seenU (preU 5) d
theorem numU_zero : numU 0 = seenU (preU 5) := by funext d; simp [numU]
theorem numU_step (i v : Nat) (h : v = if seenU (preU 5) i = 1 then cntU i else 14) : updU (numU i) i v = numU (i + 1) := by
  funext d
  subst h
  simp only [updU, numU]
  by_cases h1 : d = i
  · subst h1; simp
  · rw [if_neg h1]
    by_cases h2 : d < i
    · rw [if_pos h2, if_pos (show d < i + 1 by omega)]
    · rw [if_neg h2, if_neg (by omega)]
theorem numU_map : ∀ i, i < 256 → numU 256 i = mapU (UInt8.ofNat i) := by decide +kernel
theorem numU_fin (c : UInt8) : numU 256 c.toNat = mapU c := by
  have h := numU_map c.toNat c.toNat_lt
  rw [h]
  simp
theorem seen_bit (i : Nat) : seenU (preU 5) i = 0 ∨ seenU (preU 5) i = 1 := by
  unfold seenU; split <;> simp
theorem old_even {k : Nat} (h : k < 5) : ∃ x, oldU[2 * k]? = some x ∧ oldU.getD (2 * k) ⟨#[]⟩ = x ∧ x.size ≤ 6 := by
  rcases (by omega : k = 0 ∨ k = 1 ∨ k = 2 ∨ k = 3 ∨ k = 4) with rfl | rfl | rfl | rfl | rfl <;> exact ⟨_, rfl, rfl, by decide⟩

/-! the trie while it grows -/
def genB (tb : Nat) : Array Value := genC 14 (.slice (some ⟨tb, 0, none⟩) 14 14) (numU 256)
theorem genB_map {w : World} {b tb : Nat} (h : CB w b 289 (genB tb)) (c : UInt8) : w.cell? ⟨b, 6 + c.toNat, none⟩ = some (.int .u8 (mapU c)) := by
  rw [h.c]
  unfold genB
  rw [genC_map _ _ _ c.toNat_lt, numU_fin]
theorem genB_lo (tb : Nat) {i : Nat} (h : i < 6) : (genB tb)[i]? = ([.string ⟨#[]⟩, .int .i64 0, .string ⟨#[]⟩, .pointer none, .slice (some ⟨tb, 0, none⟩) 14 14, .int .i64 14] : List Value)[i]? := by
  unfold genB genC genL
  rw [List.getElem?_toArray, List.getElem?_append_left (by simpa using h)]
def rowU (nd : Nat → Nat) : Nat → Array Value
  | 0 => nilRow
  | k + 1 => (rowU nd k).setIfInBounds (mapU (nameC k)) (.pointer (some ⟨nd k, 0, none⟩))
theorem rowU_size (nd : Nat → Nat) : ∀ k, (rowU nd k).size = 14
  | 0 => rfl
  | k + 1 => by rw [rowU, Array.size_setIfInBounds]; exact rowU_size nd k
theorem rowU_congr {nd nd' : Nat → Nat} : ∀ k, (∀ j, j < k → nd j = nd' j) → rowU nd k = rowU nd' k
  | 0, _ => rfl
  | k + 1, h => by rw [rowU, rowU, rowU_congr k (fun j hj => h j (by omega)), h k (by omega)]
theorem rowU_last (nd : Nat → Nat) (m : Nat) : (rowU nd 5)[m]? = if m = 0 then some (.pointer (some ⟨nd 4, 0, none⟩)) else if m = 11 then some (.pointer (some ⟨nd 3, 0, none⟩)) else if m = 6 then some (.pointer (some ⟨nd 2, 0, none⟩)) else if m = 7 then some (.pointer (some ⟨nd 1, 0, none⟩)) else if m = 5 then some (.pointer (some ⟨nd 0, 0, none⟩)) else nilRow[m]? := by
  have hz : ∀ k, (rowU nd k).size = 14 := rowU_size nd
  rw [rowU, show mapU (nameC 4) = 0 from by decide]
  by_cases h0 : m = 0
  · subst h0; rw [Array.getElem?_setIfInBounds_self, if_pos (by rw [hz]; omega), if_pos rfl]
  rw [Array.getElem?_setIfInBounds_ne (by omega), if_neg h0, rowU, show mapU (nameC 3) = 11 from by decide]
  by_cases h1 : m = 11
  · subst h1; rw [Array.getElem?_setIfInBounds_self, if_pos (by rw [hz]; omega), if_pos rfl]
  rw [Array.getElem?_setIfInBounds_ne (by omega), if_neg h1, rowU, show mapU (nameC 2) = 6 from by decide]
  by_cases h2 : m = 6
  · subst h2; rw [Array.getElem?_setIfInBounds_self, if_pos (by rw [hz]; omega), if_pos rfl]
  rw [Array.getElem?_setIfInBounds_ne (by omega), if_neg h2, rowU, show mapU (nameC 1) = 7 from by decide]
  by_cases h3 : m = 7
  · subst h3; rw [Array.getElem?_setIfInBounds_self, if_pos (by rw [hz]; omega), if_pos rfl]
  rw [Array.getElem?_setIfInBounds_ne (by omega), if_neg h3, rowU, show mapU (nameC 0) = 5 from by decide]
  by_cases h4 : m = 5
  · subst h4; rw [Array.getElem?_setIfInBounds_self, if_pos (by rw [hz]; omega), if_pos rfl]
  rw [Array.getElem?_setIfInBounds_ne (by omega), if_neg h4, rowU]
theorem kid_all : ∀ i, i < 256 → mapU (UInt8.ofNat i) < 14 → (mapU (UInt8.ofNat i) = 0 ↔ kidU (UInt8.ofNat i) = some 4) ∧ (mapU (UInt8.ofNat i) = 11 ↔ kidU (UInt8.ofNat i) = some 3) ∧ (mapU (UInt8.ofNat i) = 6 ↔ kidU (UInt8.ofNat i) = some 2) ∧ (mapU (UInt8.ofNat i) = 7 ↔ kidU (UInt8.ofNat i) = some 1) ∧ (mapU (UInt8.ofNat i) = 5 ↔ kidU (UInt8.ofNat i) = some 0) := by decide +kernel
theorem rowU_kid (nd : Nat → Nat) (c : UInt8) (hc : mapU c < 14) : (rowU nd 5)[mapU c]? = some (.pointer ((kidU c).map fun j => ⟨nd j, 0, none⟩)) := by
  have hk := kid_all c.toNat c.toNat_lt
  rw [UInt8.ofNat_toNat] at hk
  obtain ⟨k4, k3, k2, k1, k0⟩ := hk hc
  rw [rowU_last]
  by_cases h0 : mapU c = 0
  · rw [if_pos h0, k4.1 h0]; rfl
  rw [if_neg h0]
  by_cases h1 : mapU c = 11
  · rw [if_pos h1, k3.1 h1]; rfl
  rw [if_neg h1]
  by_cases h2 : mapU c = 6
  · rw [if_pos h2, k2.1 h2]; rfl
  rw [if_neg h2]
  by_cases h3 : mapU c = 7
  · rw [if_pos h3, k1.1 h3]; rfl
  rw [if_neg h3]
  by_cases h4 : mapU c = 5
  · rw [if_pos h4, k0.1 h4]; rfl
  rw [if_neg h4]
  cases hk : kidU c with
  | none =>
    unfold nilRow
    rw [List.getElem?_toArray, List.getElem?_replicate, if_pos hc]; rfl
  | some j =>
    exfalso
    obtain ⟨hj, _, _⟩ := kidU_map hk
    rcases (by omega : j = 0 ∨ j = 1 ∨ j = 2 ∨ j = 3 ∨ j = 4) with rfl | rfl | rfl | rfl | rfl
    · exact h4 (k0.2 hk)
    · exact h3 (k1.2 hk)
    · exact h2 (k2.2 hk)
    · exact h1 (k3.2 hk)
    · exact h0 (k4.2 hk)
theorem CB.ne_type {w : World} {n m : Nat} {t t' : TypeId} {cs cs' : Array Value} (h : CB w n t cs) (h' : CB w m t' cs') (ht : t ≠ t') : n ≠ m := by
  rintro rfl
  have h1 := h.sh
  rw [h'.sh] at h1
  exact ht (congrArg Prod.fst (Option.some.inj h1)).symm
theorem CB.inj {w : World} {n : Nat} {t : TypeId} {cs cs' : Array Value} (h : CB w n t cs) (h' : CB w n t cs') : cs = cs' := by
  have h1 : w.heap[n]? = some (.cells cs t (0, 0)) := h
  have h2 : w.heap[n]? = some (.cells cs' t (0, 0)) := h'
  rw [h1] at h2
  simpa using h2
/-- the trie after k names -/
def StG (W : World) (b tb : Nat) : Nat → Prop
  | 0 => CB W b 289 (genB tb) ∧ CB W tb 284 nilRow
  | 1 => CB W b 289 (genB tb) ∧ ∃ A L, b ≤ A ∧ CB W tb 284 (nilRow.setIfInBounds 1 (.pointer (some ⟨A, 0, none⟩))) ∧ CB W A 287 (nodeC emptyS 0 ampS (some ⟨L, 0, none⟩) noTbl) ∧ CB W L 287 (nodeC (nameV 0) 10 emptyS none noTbl)
  | k + 2 => CB W b 289 (genB tb) ∧ ∃ A ta, ∃ nd lf : Nat → Nat, b ≤ A ∧ b ≤ ta ∧ ta ≠ tb ∧ CB W tb 284 (nilRow.setIfInBounds 1 (.pointer (some ⟨A, 0, none⟩))) ∧ CB W A 287 (nodeC emptyS 0 emptyS none (.slice (some ⟨ta, 0, none⟩) 14 14)) ∧ CB W ta 284 (rowU nd (k + 2))
      ∧ ∀ j, j < k + 2 → CB W (nd j) 287 (nodeC emptyS 0 (nameP j) (some ⟨lf j, 0, none⟩) noTbl) ∧ CB W (lf j) 287 (nodeC (nameV j) (nameR j) emptyS none noTbl)
theorem StG.drewN {W : World} {b tb k : Nat} (h : StG W b tb k) (q : Nat) : StG (W.drewN q) b tb k := by
  match k, h with
  | 0, h => exact h
  | 1, h => exact h
  | k + 2, h => exact h
theorem below_of_row {B n : Nat} {w w' : World} (h : w.grownBy w' (some n)) (hB : B ≤ w.heap.size) (hn : B ≤ n) : Below B w w' := (Below.refl B w).grown h hB (fun k hk => by cases hk; exact hn)

/-- the first name -/
theorem root0 (b tb : Nat) (W : World) (h : StG W b tb 0) (hb : b < W.heap.size) (htb : b ≤ tb) (r : Value) (hr : r = .pointer (some ⟨b, 0, none⟩)) :
    Calls Tryz.prog 232 #[.pointer (some ⟨b, 0, none⟩), .string ⟨#[38, 97, 109, 112, 59]⟩, .string ⟨#[38]⟩, .int .i64 10, r] W (fun e w' => e = .returned (.tuple #[]) ∧ StG w' b tb 1 ∧ Below b W w') := by
  subst hr
  obtain ⟨h1, h2⟩ := h
  have hbt : b ≠ tb := h1.ne_type h2 (by decide)
  refine (addKid_q b b tb 1 38 ⟨#[38, 97, 109, 112, 59]⟩ ampS ⟨#[38]⟩ 10 nilRow W (by decide) rfl (by decide) (by decide) ((h1.c 2).trans (genB_lo tb (by omega))) ((h1.c 4).trans (genB_lo tb (by omega))) hbt (by omega) (genB_map h1 38) h2 rfl rfl).mono ?_
  rintro e w' ⟨rfl, ⟨K, L, hK, hL, h3, h4, h5⟩, hg⟩
  exact ⟨rfl, ⟨h1.other hg (by simpa using hbt), K, L, by omega, h3, h4, h5⟩, below_of_row hg (by omega) htb⟩
/-- the second name -/
theorem root1 (b tb : Nat) (W : World) (h : StG W b tb 1) (hb : b < W.heap.size) (r : Value) (hr : r = .pointer (some ⟨b, 0, none⟩)) :
    Calls Tryz.prog 232 #[.pointer (some ⟨b, 0, none⟩), .string ⟨#[38, 108, 116, 59]⟩, .string ⟨#[60]⟩, .int .i64 8, r] W (fun e w' => e = .returned (.tuple #[]) ∧ StG w' b tb 2 ∧ Below b W w') := by
  subst hr
  obtain ⟨h1, A, L, hbA, h2, h3, h4⟩ := h
  have hbA2 : b ≠ A := h1.ne_type h3 (by decide)
  have htA : tb ≠ A := h2.ne_type h3 (by decide)
  have hLA : L ≠ A := by
    rintro rfl
    have h9 := congrArg (fun c : Array Value => c[1]?) (h3.inj h4)
    simp [nodeC] at h9
  have htlt := h2.lt
  refine addVia_q b b tb A 1 38 ⟨#[38, 108, 116, 59]⟩ ltS ⟨#[60]⟩ 8 (fun w' => StG w' b tb 2 ∧ Below b W w') W (by decide) rfl (by decide) ((h1.c 2).trans (genB_lo tb (by omega))) ((h1.c 4).trans (genB_lo tb (by omega))) (by omega) (genB_map h1 38) ((h2.c 1).trans (by rw [Array.getElem?_setIfInBounds_self]; rfl)) (fun q => ?_)
  refine (addSplit_q A b L (W.drewN q) (h3.drewN q) hbA2 hb ((h1.c 5).trans (genB_lo tb (by omega))) (genB_map h1 97) (genB_map h1 108)).mono ?_
  rintro e w' ⟨rfl, ⟨ta, M, K, L2, g1, g2, g3, g4, g5, g6, g7, g8, g9⟩, hg⟩
  have hsz : (W.drewN q).heap.size = W.heap.size := rfl
  refine ⟨rfl, ⟨(h1.drewN q).other hg (by simpa using hbA2), A, ta, fun j => if j = 0 then M else K, fun j => if j = 0 then L else L2, hbA, by omega, by omega, (h2.drewN q).other hg (by simpa using htA), g5, g6, ?_⟩, ?_⟩
  · intro j hj
    have hj2 : j < 2 := hj
    rcases (by omega : j = 0 ∨ j = 1) with rfl | rfl
    · exact ⟨g7, (h4.drewN q).other hg (by simpa using hLA)⟩
    · exact ⟨g8, g9⟩
  · exact (Below.drewN' (Below.refl b W) q).trans (below_of_row hg (by omega) hbA)
/-- a later name -/
theorem root2 (k b tb m : Nat) (key rest : ByteArray) (W : World) (h : StG W b tb (k + 2)) (hb : b < W.heap.size) (r : Value) (hr : r = .pointer (some ⟨b, 0, none⟩))
    (hk0 : 0 < key.size) (hk1 : key[0]'hk0 = 38) (hk2 : key.extract 1 key.size = rest) (hr0 : 0 < rest.size) (hr1 : rest[0]'hr0 = nameC (k + 2)) (hr2 : rest.extract 1 rest.size = nameP (k + 2)) (hm : mapU (nameC (k + 2)) = m) (hm14 : m < 14)
    (hp : 0 < (nameP (k + 2)).size) (hrow : ∀ nd, (rowU nd (k + 2))[m]? = some (.pointer none)) :
    Calls Tryz.prog 232 #[.pointer (some ⟨b, 0, none⟩), .string key, .string (nameV (k + 2)), .int .i64 (nameR (k + 2)), r] W (fun e w' => e = .returned (.tuple #[]) ∧ StG w' b tb (k + 3) ∧ Below b W w') := by
  subst hr
  obtain ⟨h1, A, ta, nd, lf, hbA, hbt, htt, h2, h3, h4, h5⟩ := h
  have hb1 : b ≠ ta := h1.ne_type h4 (by decide)
  have hA1 : A ≠ ta := h3.ne_type h4 (by decide)
  refine addVia_q b b tb A 1 38 key rest (nameV (k + 2)) (nameR (k + 2)) (fun w' => StG w' b tb (k + 3) ∧ Below b W w') W hk0 hk1 hk2 ((h1.c 2).trans (genB_lo tb (by omega))) ((h1.c 4).trans (genB_lo tb (by omega))) (by omega) (genB_map h1 38) ((h2.c 1).trans (by rw [Array.getElem?_setIfInBounds_self]; rfl)) (fun q => ?_)
  refine (addKid_q A b ta m (nameC (k + 2)) rest (nameP (k + 2)) (nameV (k + 2)) (nameR (k + 2)) (rowU nd (k + 2)) (W.drewN q) hr0 hr1 hr2 hp ((h3.c 2).trans rfl) ((h3.c 4).trans rfl) hA1 hm14 (by rw [← hm]; exact genB_map h1 _) (h4.drewN q) (rowU_size _ _) (hrow nd)).mono ?_
  rintro e w' ⟨rfl, ⟨K, L, hK, hL, g1, g2, g3⟩, hg⟩
  refine ⟨rfl, ⟨(h1.drewN q).other hg (by simpa using hb1), A, ta, fun j => if j = k + 2 then K else nd j, fun j => if j = k + 2 then L else lf j, hbA, hbt, htt, (h2.drewN q).other hg (by simpa using htt.symm), (h3.drewN q).other hg (by simpa using hA1), ?_, ?_⟩, ?_⟩
  · rw [rowU, rowU_congr (nd' := nd) (k + 2) (fun j hj => if_neg (by omega)), hm, if_pos rfl]
    exact g1
  · intro j hj
    by_cases hjk : j = k + 2
    · subst hjk
      simp only [↓reduceIte]
      exact ⟨g2, g3⟩
    · simp only [hjk, ↓reduceIte]
      obtain ⟨h6, h7⟩ := h5 j (by omega)
      exact ⟨(h6.drewN q).other hg (by simpa using h6.ne_type h4 (by decide)), (h7.drewN q).other hg (by simpa using h7.ne_type h4 (by decide))⟩
  · exact (Below.drewN' (Below.refl b W) q).trans (below_of_row hg (by show b ≤ W.heap.size; omega) hbt)

theorem StG.trie {W : World} {b tb : Nat} (h : StG W b tb 5) : ∃ na ta, ∃ nd lf : Nat → Nat, TrieAt W b tb na ta nd lf := by
  obtain ⟨h1, A, ta, nd, lf, _, _, _, h2, h3, h4, h5⟩ := h
  refine ⟨A, ta, nd, lf, (h1.c 0).trans (genB_lo tb (by omega)), (h1.c 1).trans (genB_lo tb (by omega)), (h1.c 2).trans (genB_lo tb (by omega)), (h1.c 3).trans (genB_lo tb (by omega)), (h1.c 4).trans (genB_lo tb (by omega)), (h1.c 5).trans (genB_lo tb (by omega)), genB_map h1, ?_,
    (h3.c 0).trans rfl, (h3.c 1).trans rfl, (h3.c 2).trans rfl, (h3.c 3).trans rfl, (h3.c 4).trans rfl, ?_,
    fun j hj => ((h5 j hj).1.c 0).trans rfl, fun j hj => ((h5 j hj).1.c 1).trans rfl, fun j hj => ((h5 j hj).1.c 2).trans rfl, fun j hj => ((h5 j hj).1.c 3).trans rfl, fun j hj => ((h5 j hj).1.c 4).trans rfl,
    fun j hj => ((h5 j hj).2.c 0).trans rfl, fun j hj => ((h5 j hj).2.c 1).trans rfl, fun j hj => ((h5 j hj).2.c 2).trans rfl, fun j hj => ((h5 j hj).2.c 3).trans rfl, fun j hj => ((h5 j hj).2.c 4).trans rfl⟩
  · intro i hi
    rw [h2.c]
    by_cases h1 : i = 1
    · subst h1
      rw [Array.getElem?_setIfInBounds_self]; rfl
    · rw [Array.getElem?_setIfInBounds_ne (by omega), if_neg h1]
      unfold nilRow
      rw [List.getElem?_toArray, List.getElem?_replicate, if_pos hi]
  · intro c hc
    rw [h4.c]
    exact rowU_kid nd c hc

end Go.Proofs.YtbhildmalcfhiaaGreatDoor
