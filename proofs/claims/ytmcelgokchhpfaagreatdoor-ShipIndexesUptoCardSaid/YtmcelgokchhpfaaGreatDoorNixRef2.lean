/-
  mastref1.IndexOf: the second half: what is fixed, and the terms so far.
-/
import Derived.Test.YtmcelgokchhpfaaGreatDoorNixFin
import Derived.Test.YtmcelgokchhpfaaGreatDoorNixOwn
import Derived.Test.YtmcelgokchhpfaaGreatDoorSortedQ
import Derived.Test.YtmcelgokchhpfaaGreatDoorOwn
import Derived.Laws.AppendOwnNone
import Derived.Test.YtmcelgokchhpfaaGreatDoorNixReg
namespace Go.Proofs.YtmcelgokchhpfaaGreatDoor
open Go.RowKit Go.Deep

/-- the names of a document -/
def nmL (D : List DocR) (i : Nat) : List (List UInt8) := match D[i]? with | some d => namesL (ownL (twL d) (bwL d)) | none => []
theorem nmL_at {D : List DocR} {i : Nat} {d : DocR} (h : D[i]? = some d) : nmL D i = namesL (ownL (twL d) (bwL d)) := by rw [nmL, h]
theorem nmL_mem {D : List DocR} {i : Nat} {s : List UInt8} : s ∈ nmL D i ↔ 0 < wAt D i s := by
  rw [nmL, wAt]
  cases D[i]? with
  | none => simp
  | some d => simp only; rw [namesL_mem, ← own_count, List.count_pos_iff]
theorem nmL_lt (D : List DocR) (i : Nat) : (nmL D i).Pairwise (· < ·) := by
  rw [nmL]
  cases D[i]? with
  | none => exact List.Pairwise.nil
  | some d => exact namesL_lt _
def ctL (D : List DocR) (i : Nat) : List Int := (nmL D i).map fun s => ((wAt D i s : Nat) : Int)
theorem ctL_at {D : List DocR} {i : Nat} {d : DocR} (h : D[i]? = some d) : ctL D i = cntL (srt (ownL (twL d) (bwL d))) (srt (ownL (twL d) (bwL d))).length := by
  rw [countsL, ctL, nmL_at h]
  exact List.map_congr_left (fun s _ => by rw [wAt_at h, own_count])
theorem allW_take {D : List DocR} {k : Nat} (hk : k < D.length) : allW (D.take (k + 1)) = allW (D.take k) ++ nmL D k := by
  have : ∀ (D : List DocR) (k : Nat), k < D.length → allW (D.take (k + 1)) = allW (D.take k) ++ nmL D k := by
    intro D
    induction D with
    | nil => intro k h; simp at h
    | cons d r ih =>
      intro k h
      cases k with
      | zero => simp [allW, nmL]
      | succ k =>
        rw [List.take_succ_cons, List.take_succ_cons, allW, allW, ih k (by simpa using h), List.append_assoc]
        rfl
  exact this D k hk
theorem nmL_len (D : List DocR) (i : Nat) : (nmL D i).length ≤ nixW D := by
  rw [nmL]
  cases h : D[i]? with
  | none => exact Nat.zero_le _
  | some d =>
    simp only
    have h1 := names_len (twL d) (bwL d)
    simp only [twL, bwL, List.length_map] at h1
    have h3 := sumBy_mem fwN (List.mem_of_getElem? h)
    have h4 := fwN_sum D
    have h5 : fwN d = (wordsAux d.title.data.toList []).length + (wordsAux d.text.data.toList []).length := rfl
    simp only [twL, bwL]
    omega

structure RefIn (w : World) (N X : Nat) (D : List DocR) (k : Nat) (dv sv tm st mn : Value) (ds : List DocR) (ss : List Int) (tl : List (List UInt8)) (nv cv : Nat → Value) : Prop where
  hr : CB w N 26 #[.slice none 0 0, .slice none 0 0, .slice none 0 0]
  hx : CB w X 26 #[dv, sv, .slice none 0 0]
  hNX : N < X
  hd : w.ownsRow N 33 3 dv ds.length (docCells ds)
  hs : w.ownsRow N 3 1 sv ss.length (intCells ss)
  ht : w.ownsRow N 9 1 tm tl.length (strCells tl)
  hst : w.ownsRow N 38 1 st k ((List.range k).map nv)
  hmn : w.ownsRow N 23 1 mn k ((List.range k).map cv)
  nm : ∀ i, i < k → w.ownsRow N 9 1 (nv i) (nmL D i).length (strCells (nmL D i))
  ct : ∀ i, i < k → w.ownsRow N 3 1 (cv i) (nmL D i).length (intCells (ctL D i))
  an : ∀ i, i < k → Apart (nv i) tm
  ac : ∀ i, i < k → Apart (cv i) sv
section
variable {w w' : World} {N X : Nat} {D : List DocR} {k : Nat} {dv sv tm st mn : Value} {ds : List DocR} {ss : List Int} {tl : List (List UInt8)} {nv cv : Nat → Value}
theorem RefIn.keepX {p : Nat → Prop} (h : RefIn w N X D k dv sv tm st mn ds ss tl nv cv) (g : GrownX p w w') (hN : ¬ p N) (hX : ¬ p X) (h1 : ∀ b, dv.ownBlock = some b → ¬ p b) (h2 : ∀ b, sv.ownBlock = some b → ¬ p b) (h3 : ∀ b, tm.ownBlock = some b → ¬ p b) (h4 : ∀ b, st.ownBlock = some b → ¬ p b) (h5 : ∀ b, mn.ownBlock = some b → ¬ p b)
    (h6 : ∀ i, i < k → ∀ b, (nv i).ownBlock = some b → ¬ p b) (h7 : ∀ i, i < k → ∀ b, (cv i).ownBlock = some b → ¬ p b) : RefIn w' N X D k dv sv tm st mn ds ss tl nv cv :=
  ⟨h.hr.keepX g hN, h.hx.keepX g hX, h.hNX, own_keepX h.hd g h1, own_keepX h.hs g h2, own_keepX h.ht g h3, own_keepX h.hst g h4, own_keepX h.hmn g h5, fun i hi => own_keepX (h.nm i hi) g (h6 i hi), fun i hi => own_keepX (h.ct i hi) g (h7 i hi), h.an, h.ac⟩
theorem RefIn.below (h : RefIn w N X D k dv sv tm st mn ds ss tl nv cv) (hb : Below w.heap.size w w') : RefIn w' N X D k dv sv tm st mn ds ss tl nv cv :=
  h.keepX (p := fun _ => False) (GrownX.of_below hb) (fun h => h) (fun h => h) (fun _ _ h => h) (fun _ _ h => h) (fun _ _ h => h) (fun _ _ h => h) (fun _ _ h => h) (fun _ _ _ _ h => h) (fun _ _ _ _ h => h)
/-- no block of ints, strings .. is one of another kind -/
theorem own_ne {w : World} {B B2 K K2 n n2 : Nat} {e e2 : TypeId} {v v2 : Value} {xs xs2 : List Value} (h : w.ownsRow B e K v n xs) (h2 : w.ownsRow B2 e2 K2 v2 n2 xs2) (hne : e2 ≠ e) : ∀ b, v.ownBlock = some b → ¬ v2.ownBlock = some b := fun b hb e3 => by
  rcases h2.2 with ⟨e4, _⟩ | ⟨g, cap, cur, e4, _, hg, _⟩
  · rw [e4] at e3; simp [Value.ownBlock] at e3
  · rw [e4] at e3; simp only [Value.ownBlock, Option.some.injEq] at e3
    exact RowT.own h (Ne.symm hne) b hb cur (0, 0) (by rw [← e3]; exact hg)
theorem own_cb {w : World} {B K n m : Nat} {e t : TypeId} {v : Value} {xs : List Value} {cs : Array Value} (h : w.ownsRow B e K v n xs) (hc : CB w m t cs) (hne : t ≠ e) : ∀ b, v.ownBlock = some b → ¬ b = m := fun b hb e3 => RowT.own h (Ne.symm hne) b hb cs (0, 0) (by rw [e3]; exact hc)
theorem RefIn.pushD {dv' : Value} (h : RefIn w N X D k dv sv tm st mn ds ss tl nv cv) (d : DocR) (hg : w.grownBy w' dv.ownBlock) (ho : w'.ownsRow N 33 3 dv' (ds.length + 1) (docCells ds ++ [.string d.addr, .string d.title, .string d.text])) :
    RefIn (w'.setCell ⟨X, 0, none⟩ dv') N X D k dv' sv tm st mn (ds ++ [d]) ss tl nv cv := by
  have hx1 : CB w' X 26 #[dv, sv, .slice none 0 0] := h.hx.push h.hd (by decide) hg
  have hr1 : CB w' N 26 #[.slice none 0 0, .slice none 0 0, .slice none 0 0] := h.hr.push h.hd (by decide) hg
  have g2 := grown_setB w' X 0 dv'
  have K : ∀ {e : TypeId} {n q : Nat} {v : Value} {xs : List Value}, w.ownsRow N e q v n xs → 33 ≠ e → 26 ≠ e → (w'.setCell ⟨X, 0, none⟩ dv').ownsRow N e q v n xs := fun ho h1 h2 => own_rowT (own_rowT ho hg (RowT.own h.hd h1)) g2 (RowT.cb hx1 h2)
  refine ⟨hr1.set_other (Nat.ne_of_lt h.hNX) _, hx1.put 0 _, h.hNX, ?_, K h.hs (by decide) (by decide), K h.ht (by decide) (by decide), K h.hst (by decide) (by decide), K h.hmn (by decide) (by decide), fun i hi => K (h.nm i hi) (by decide) (by decide), fun i hi => K (h.ct i hi) (by decide) (by decide), h.an, h.ac⟩
  rw [docCells_snoc, List.length_append]
  exact own_rowT ho g2 (RowT.cb hx1 (by decide))
theorem RefIn.pushS {sv' : Value} (h : RefIn w N X D k dv sv tm st mn ds ss tl nv cv) (n : Int) (hg : w.grownBy w' sv.ownBlock) (ho : w'.ownsRow N 3 1 sv' (ss.length + 1) (intCells ss ++ [.int .i64 n])) (hn2 : ∀ b, sv'.ownBlock = some b → sv.ownBlock = some b ∨ w.heap.size ≤ b) :
    RefIn (w'.setCell ⟨X, 1, none⟩ sv') N X D k dv sv' tm st mn ds (ss ++ [n]) tl nv cv := by
  have hx1 : CB w' X 26 #[dv, sv, .slice none 0 0] := h.hx.push h.hs (by decide) hg
  have hr1 : CB w' N 26 #[.slice none 0 0, .slice none 0 0, .slice none 0 0] := h.hr.push h.hs (by decide) hg
  have g2 := grown_setB w' X 1 sv'
  have K : ∀ {e : TypeId} {n q : Nat} {v : Value} {xs : List Value}, w.ownsRow N e q v n xs → 3 ≠ e → 26 ≠ e → (w'.setCell ⟨X, 1, none⟩ sv').ownsRow N e q v n xs := fun ho h1 h2 => own_rowT (own_rowT ho hg (RowT.own h.hs h1)) g2 (RowT.cb hx1 h2)
  refine ⟨hr1.set_other (Nat.ne_of_lt h.hNX) _, hx1.put 1 _, h.hNX, K h.hd (by decide) (by decide), ?_, K h.ht (by decide) (by decide), K h.hst (by decide) (by decide), K h.hmn (by decide) (by decide), fun i hi => K (h.nm i hi) (by decide) (by decide), fun i hi => ?_, h.an, fun i hi b hb e => ?_⟩
  · rw [intCells_snoc, List.length_append]
    exact own_rowT ho g2 (RowT.cb hx1 (by decide))
  · exact own_rowT ((h.ct i hi).kept hg ((h.ac i hi).or)) g2 (RowT.cb hx1 (by decide))
  · rcases hn2 b e with h1 | h1
    · exact h.ac i hi b hb h1
    · have := own_lt (h.ct i hi) b hb; omega
/-- the words of a document, joined to all -/
theorem RefIn.join {tm' : Value} {tl2 : List (List UInt8)} (h : RefIn w N X D k dv sv tm st mn ds ss tl nv cv) (hg : w.grownBy w' tm.ownBlock) (ho : w'.ownsRow N 9 1 tm' (tl.length + tl2.length) (strCells tl ++ strCells tl2)) (hn2 : ∀ b, tm'.ownBlock = some b → tm.ownBlock = some b ∨ w.heap.size ≤ b) :
    RefIn w' N X D k dv sv tm' st mn ds ss (tl ++ tl2) nv cv := by
  have K : ∀ {e : TypeId} {n q : Nat} {v : Value} {xs : List Value}, w.ownsRow N e q v n xs → 9 ≠ e → w'.ownsRow N e q v n xs := fun ho h1 => own_rowT ho hg (RowT.own h.ht h1)
  refine ⟨h.hr.push h.ht (by decide) hg, h.hx.push h.ht (by decide) hg, h.hNX, K h.hd (by decide), K h.hs (by decide), by rw [List.length_append, strCells_append]; exact ho, K h.hst (by decide), K h.hmn (by decide), fun i hi => (h.nm i hi).kept hg ((h.an i hi).or), fun i hi => K (h.ct i hi) (by decide), fun i hi b hb e => ?_, h.ac⟩
  rcases hn2 b e with h1 | h1
  · exact h.an i hi b hb h1
  · have := own_lt (h.nm i hi) b hb; omega
/-- the rows of a document, pushed -/
theorem RefIn.pushN {w'' : World} {st' mn' nk ck : Value} (h : RefIn w N X D k dv sv tm st mn ds ss tl nv cv) (hnk : w.ownsRow N 9 1 nk (nmL D k).length (strCells (nmL D k))) (hck : w.ownsRow N 3 1 ck (nmL D k).length (intCells (ctL D k))) (ha : Apart nk tm) (hb : Apart ck sv)
    (hg : w.grownBy w' st.ownBlock) (ho : w'.ownsRow N 38 1 st' (k + 1) ((List.range k).map nv ++ [nk])) (hg2 : w'.grownBy w'' mn.ownBlock) (hmn' : w'.ownsRow N 23 1 mn k ((List.range k).map cv)) (ho2 : w''.ownsRow N 23 1 mn' (k + 1) ((List.range k).map cv ++ [ck])) :
    RefIn w'' N X D (k + 1) dv sv tm st' mn' ds ss tl (fun i => if i < k then nv i else nk) (fun i => if i < k then cv i else ck) := by
  have K : ∀ {e : TypeId} {n q : Nat} {v : Value} {xs : List Value}, w.ownsRow N e q v n xs → 38 ≠ e → 23 ≠ e → w''.ownsRow N e q v n xs := fun ho h1 h2 => own_rowT (own_rowT ho hg (RowT.own h.hst h1)) hg2 (RowT.own hmn' h2)
  have hm : ∀ (f : Nat → Value) (x : Value), (List.range (k + 1)).map (fun i => if i < k then f i else x) = (List.range k).map f ++ [x] := fun f x => by
    rw [List.range_succ, List.map_append]
    congr 1
    · exact List.map_congr_left (fun i hi => if_pos (List.mem_range.1 hi))
    · simp
  refine ⟨(h.hr.push h.hst (by decide) hg).push hmn' (by decide) hg2, (h.hx.push h.hst (by decide) hg).push hmn' (by decide) hg2, h.hNX, K h.hd (by decide) (by decide), K h.hs (by decide) (by decide), K h.ht (by decide) (by decide), ?_, by rw [hm]; exact ho2, fun i hi => ?_, fun i hi => ?_, fun i hi => ?_, fun i hi => ?_⟩
  · rw [hm]; exact own_rowT ho hg2 (RowT.own hmn' (by decide))
  · by_cases e : i < k
    · simp only [if_pos e]; exact K (h.nm i e) (by decide) (by decide)
    · obtain rfl : i = k := by omega
      simp only [if_neg e]; exact K hnk (by decide) (by decide)
  · by_cases e : i < k
    · simp only [if_pos e]; exact K (h.ct i e) (by decide) (by decide)
    · obtain rfl : i = k := by omega
      simp only [if_neg e]; exact K hck (by decide) (by decide)
  · by_cases e : i < k
    · simp only [if_pos e]; exact h.an i e
    · simp only [if_neg e]; exact ha
  · by_cases e : i < k
    · simp only [if_pos e]; exact h.ac i e
    · simp only [if_neg e]; exact hb
/-- only the box turns, and what is new -/
theorem RefIn.far (h : RefIn w N X D k dv sv tm st mn ds ss tl nv cv) (g : GrownX (Far X w.heap.size) w w') : CB w' N 26 #[.slice none 0 0, .slice none 0 0, .slice none 0 0] ∧ w'.ownsRow N 33 3 dv ds.length (docCells ds) ∧ w'.ownsRow N 3 1 sv ss.length (intCells ss) ∧ w'.ownsRow N 38 1 st k ((List.range k).map nv) ∧ w'.ownsRow N 23 1 mn k ((List.range k).map cv) ∧
    (∀ i, i < k → w'.ownsRow N 9 1 (nv i) (nmL D i).length (strCells (nmL D i))) ∧ (∀ i, i < k → w'.ownsRow N 3 1 (cv i) (nmL D i).length (intCells (ctL D i))) := by
  have K : ∀ {e : TypeId} {n q : Nat} {v : Value} {xs : List Value}, w.ownsRow N e q v n xs → 26 ≠ e → w'.ownsRow N e q v n xs := fun ho h2 => own_keepX ho g (fun b hb e => by
    rcases e with e | e
    · exact own_cb ho h.hx h2 b hb e
    · have := own_lt ho b hb; omega)
  refine ⟨h.hr.keepX g ?_, K h.hd (by decide), K h.hs (by decide), K h.hst (by decide), K h.hmn (by decide), fun i hi => K (h.nm i hi) (by decide), fun i hi => K (h.ct i hi) (by decide)⟩
  have h1 := h.hr.lt
  have h2 := h.hNX
  rintro (e | e) <;> omega
end

end Go.Proofs.YtmcelgokchhpfaaGreatDoor

namespace Go.Proofs.YtmcelgokchhpfaaGreatDoor
open Go.RowKit Go.Deep

def SortedPostG (N : Nat) (v0 : Value) (L : List (List UInt8)) (w : World) (e : Ending) (w' : World) : Prop :=
  ∃ v, e = .returned v ∧ w'.ownsRow N 9 1 v (onceL L L.length).length (strCells (onceL L L.length)) ∧ Below N w w' ∧ ∃ w1, w.grownBy w1 v0.ownBlock ∧ Below w1.heap.size w1 w' ∧ w'.ownsRow w1.heap.size 9 1 v (onceL L L.length).length (strCells (onceL L L.length))

set_option maxRecDepth 100000 in
set_option maxHeartbeats 4000000 in
theorem sorted_g (B : Nat) (v : Value) (L : List (List UInt8)) (w : World) (h : w.ownsRow B 9 1 v L.length (strCells L)) (hl : L.length ≤ 1048576) (hB : B ≤ w.heap.size) :
    Calls Tryz.prog 18 #[v] w (SortedPostG B v (L.mergeSort fun x y => decide (x ≤ y)) w) := by
  obtain ⟨M, hM⟩ : ∃ M, (L.mergeSort fun x y => decide (x ≤ y)) = M := ⟨_, rfl⟩
  have hML : M.length = L.length := by rw [← hM]; exact List.length_mergeSort _
  obtain ⟨A0, c0, rfl, hc0, hlc, hA0⟩ := own_form h
  have HH := Lib.hid h
  have hs := sortS_q B _ L w h hl
  have HMs := Lib.hid hM
  rw [hM]
  clear h hM
  go_enter Tryz.func18, Tryz.ntmps18
  go_wp2_with fail
  refine hs.mono ?_
  clear hs
  rintro e w1 ⟨rfl, own1, hg1⟩
  rw [HMs.out] at own1
  have HO1 := Lib.hid own1
  have HG1 := Lib.hid hg1
  have HB1 := Lib.hid (below_of_grown hg1 hB (fun g hg => own_block_ge HH.out g hg))
  have HA0 := Lib.hid hA0
  have HML := Lib.hid hML
  clear own1 hg1 hA0 hML
  obtain ⟨K, hK⟩ : ∃ K, w1.heap.size = K := ⟨_, rfl⟩
  have HK := Lib.hid hK; clear hK
  unfold maxLen at hc0
  have hMl : M.length ≤ 1048576 := by have := HML.out; omega
  have hLM : (L.length : Int) = (M.length : Int) := by have := HML.out; omega
  rw [← HML.out] at hlc HO1 ⊢
  clear hLM
  go_wp2_with fail
  go_loopw [10, 3] (fun t10 t3 wr => ∃ (j n : Nat) (A : Option Addr) (c : Nat), j ≤ M.length ∧ t10 = .int .i64 j ∧ t3 = .slice A n c ∧ Hid (n = (onceL M j).length) ∧ Hid (wr.ownsRow K 9 1 (.slice A n c) n (strCells (onceL M j))) ∧ Hid (Below K w1 wr)) (fun t _ _ => M.length - (intOf t).toNat)
  case atStart => exact ⟨0, 0, none, 0, Nat.zero_le _, rfl, rfl, rfl, World.ownsRow_nil _ _ _ _, Below.refl _ _⟩
  case round =>
    obtain ⟨j, n, A, c, hj, rfl, rfl, HNn, HOw, HBw⟩ := hrel
    by_cases hlt : j < M.length
    · obtain ⟨x, hx⟩ : ∃ x, M[j]? = some x := ⟨_, List.getElem?_eq_getElem hlt⟩
      obtain ⟨g, cg, hv, hcell, _, _, hg2⟩ := ones_str HO1.out hx
      cases hv
      have k0 := (Keeps.of_below (show Below w1.heap.size w1 wr by rw [HK.out]; exact HBw.out)) _ _ hcell
      have HX := Lib.hid hx
      have hnle : n ≤ 1048576 := by have := onceL_len M j; have := HNn.out; omega
      have hKw : K ≤ wr.heap.size := by have := HBw.out.size; have := HK.out; omega
      obtain ⟨sx, hsx⟩ : ∃ s, str0 x = s := ⟨_, rfl⟩
      have HSx := Lib.hid hsx
      rw [hsx] at k0
      clear hcell
      by_cases h0 : j = 0
      · subst h0
        have HY := Lib.hid (once_yes hx (Or.inl rfl))
        clear hx hsx
        go_wp2_with (first | (at_builtin; go_must (refine wpList_push _ rfl (.tmp 26) (.tmp 28) 38 rfl K 9 _ 1 16 Tryz.underlying38 info_strE rfl (by omega) (.slice A n c) n _ rfl (own_alloc HOw.out _) [.string sx] rfl _ rfl (cell_new _ [.string sx] 9 _ rfl) (one_str _) (by omega) (by unfold maxLen; omega) (by simp; omega) ?_); intro g7 c7 w7 own7 hg7 hgg7 hb7; have HO7 := Lib.hid own7; have HB7 := Lib.hid ((HBw.out.alloc hKw (.cells #[.string sx] 9)).trans hb7); clear own7 hg7 hgg7 hb7))
        go_roundw
        case rel => exact ⟨0 + 1, n + 1, _, c7, by omega, by go_num, rfl, by rw [HY.out, List.length_append, ← HNn.out]; rfl, by rw [HY.out, strCells_append, show strCells [x] = [Value.string sx] by rw [← HSx.out]; rfl]; exact HO7.out, HB7.out⟩
        case measure => simp [intOf]; omega
      · obtain ⟨y, hy⟩ : ∃ y, M[j - 1]? = some y := ⟨_, List.getElem?_eq_getElem (by omega)⟩
        obtain ⟨g', cg', hv', hcell', _, _, _⟩ := ones_str HO1.out hy
        cases hv'
        have k1 := (Keeps.of_below (show Below w1.heap.size w1 wr by rw [HK.out]; exact HBw.out)) _ _ hcell'
        obtain ⟨sy, hsy⟩ : ∃ s, str0 y = s := ⟨_, rfl⟩
        rw [hsy] at k1
        have hj0 : ((j : Int) == 0) = false := by simp; omega
        have hj1 : (0 : Int) ≤ (j : Int) - 1 := by omega
        have hj2 : ((j : Int) - 1).toNat = j - 1 := by omega
        have hj3 : (j : Int) - 1 < (M.length : Int) := by omega
        clear hcell'
        by_cases hxy : x = y
        · have HY := Lib.hid (once_no hx h0 (by rw [hy, hxy]))
          subst hxy
          have hss : sy = sx := hsy.symm.trans hsx
          subst hss
          clear hx hy hsx hsy
          go_wp2_with fail
          go_roundw
          case rel => exact ⟨j + 1, n, A, c, by omega, by go_num, rfl, by rw [HY.out]; exact HNn.out, by rw [HY.out]; exact HOw.out, HBw.out⟩
          case measure => simp [intOf]; omega
        · have HY := Lib.hid (once_yes hx (Or.inr (by rw [hy]; exact fun e => hxy (Option.some.inj e).symm)))
          have hss : sx ≠ sy := by rw [← hsx, ← hsy]; exact str0_ne hxy
          have hs1 := str_ne hss
          have hs2 := str_ne2 hss
          clear hx hy hsx hsy hss
          go_wp2_with (first | (at_builtin; go_must (refine wpList_push _ rfl (.tmp 26) (.tmp 28) 38 rfl K 9 _ 1 16 Tryz.underlying38 info_strE rfl (by omega) (.slice A n c) n _ rfl (own_alloc HOw.out _) [.string sx] rfl _ rfl (cell_new _ [.string sx] 9 _ rfl) (one_str _) (by omega) (by unfold maxLen; omega) (by simp; omega) ?_); intro g7 c7 w7 own7 hg7 hgg7 hb7; have HO7 := Lib.hid own7; have HB7 := Lib.hid ((HBw.out.alloc hKw (.cells #[.string sx] 9)).trans hb7); clear own7 hg7 hgg7 hb7))
          go_roundw
          case rel => exact ⟨j + 1, n + 1, _, c7, by omega, by go_num, rfl, by rw [HY.out, List.length_append, ← HNn.out]; rfl, by rw [HY.out, strCells_append, show strCells [x] = [Value.string sx] by rw [← HSx.out]; rfl]; exact HO7.out, HB7.out⟩
          case measure => simp [intOf]; omega
    · obtain rfl : j = M.length := by omega
      go_wp2_with fail
      go_ret
      exact ⟨_, rfl, by rw [← HNn.out]; exact own_baseE HOw.out (by have := HB1.out.size; have := HK.out; omega), HB1.out.trans (HBw.out.mono (by have := HB1.out.size; have := HK.out; omega)), w1, HG1.out, by rw [HK.out]; exact HBw.out, by rw [HK.out, ← HNn.out]; exact HOw.out⟩

end Go.Proofs.YtmcelgokchhpfaaGreatDoor

namespace Go.Proofs.YtmcelgokchhpfaaGreatDoor
open Go.RowKit Go.Deep

/-- append of fresh elements of one cell each to a slice of the call's own -/
theorem wpList_app {P : Program} {ops : Array Oper} {rest : List Oper} {o : Oper} {a : Act} {Q : Exit → Act → World → Prop} (W : World) (hgd : o.guard = none) (s x : Operand) (t : TypeId)
    (ho : o.op = .call { callee := .builtin .append, args := #[s, x], argTypes := #[t, t] })
    (B : Nat) (e : TypeId) (z : Value) (bytes : Nat) (ht : P.underlying t = some (.slice e)) (hi : (P.info? e).map (fun i => (i.zero, i.size, i.bytes)) = some (some z, 1, bytes)) (hzs : z.cells.size = 1)
    (v : Value) (n : Nat) (xs : List Value) (hs : a.eval s = v) (hown : W.ownsRow B e 1 v n xs)
    (news : List Value) (q : Nat) (hl : news.length = q) (hq : 0 < q) (sz : Nat) (hx : a.eval x = .slice (some ⟨sz, 0, none⟩) q q) (hnew : ∀ (j : Nat) (u : Value), news[j]? = some u → W.cell? ⟨sz, j, none⟩ = some u) (h1 : ∀ u ∈ news, u.oneCell' = true)
    (hn : (n + q) * bytes ≤ 140737488355328) (hn' : n + q ≤ maxLen) (hB : B ≤ W.heap.size)
    (h : ∀ g cap w', w'.ownsRow B e 1 (.slice (some ⟨g, 0, none⟩) (n + q) cap) (n + q) (xs ++ news) → W.grownBy w' v.ownBlock → (v.ownBlock = some g ∨ W.heap.size ≤ g) → Below B W w' → wpList P ops Q rest (a.put o.dst (.slice (some ⟨g, 0, none⟩) (n + q) cap)) w') :
    wpList P ops Q (o :: rest) a W := by
  obtain ⟨i, hi1, hi2, hi3, hi4⟩ := info_parts hi
  refine wpList_append_own_at (P := P) W hgd s x t ho B e i z 1 bytes ht hi1 hi2 hi3 hi4 hzs (by omega) v n xs hs hown ⟨sz, 0, none⟩ q q news hx (by omega) ?_ h1 hn' hn hB ?_
  · intro j u hj
    have hadd : (⟨sz, 0, none⟩ : Addr).add j = ⟨sz, j, none⟩ := by unfold Addr.add; split <;> simp_all
    rw [hadd]
    exact hnew j u hj
  · intro v' w' h2 hg _ h5
    have hb : Below B W w' := below_of_grown hg hB (own_block_ge hown)
    obtain ⟨A, c, rfl, _, _, hA⟩ := own_form h2
    obtain ⟨g, rfl, _, _⟩ := hA (by omega)
    refine h g c w' h2 hg ?_ hb
    simp only [Value.ownBlock] at h5
    rcases h5 with h5 | h5
    · left; exact h5.symm
    · right; simp at h5; omega
/-- append of another row of the call's own; what turns is told -/
theorem wpList_joinG {P : Program} {ops : Array Oper} {rest : List Oper} {o : Oper} {a : Act} {Q : Exit → Act → World → Prop} (W : World) (hgd : o.guard = none) (s x : Operand) (t : TypeId)
    (ho : o.op = .call { callee := .builtin .append, args := #[s, x], argTypes := #[t, t] })
    (B : Nat) (e : TypeId) (z : Value) (bytes : Nat) (ht : P.underlying t = some (.slice e)) (hi : (P.info? e).map (fun i => (i.zero, i.size, i.bytes)) = some (some z, 1, bytes)) (hzs : z.cells.size = 1)
    (v : Value) (n : Nat) (xs : List Value) (hs : a.eval s = v) (hown : W.ownsRow B e 1 v n xs)
    (B2 : Nat) (u : Value) (m : Nat) (ys : List Value) (hx : a.eval x = u) (hu : W.ownsRow B2 e 1 u m ys) (h1 : ∀ y ∈ ys, y.oneCell' = true)
    (hn : (n + m) * bytes ≤ 140737488355328) (hn' : n + m ≤ maxLen) (hB : B ≤ W.heap.size)
    (h : ∀ A c w', w'.ownsRow B e 1 (.slice A (n + m) c) (n + m) (xs ++ ys) → W.grownBy w' v.ownBlock → (∀ b, (Value.slice A (n + m) c).ownBlock = some b → v.ownBlock = some b ∨ W.heap.size ≤ b) → wpList P ops Q rest (a.put o.dst (.slice A (n + m) c)) w') :
    wpList P ops Q (o :: rest) a W := by
  obtain ⟨i, hi1, hi2, hi3, hi4⟩ := info_parts hi
  rcases hu.2 with ⟨rfl, hm⟩ | ⟨g, cap, cur, rfl, hBg, hg, hnc, hcm, hcs, htake⟩
  · subst hm
    have hy : ys = [] := List.eq_nil_of_length_eq_zero (by have := hu.1; omega)
    subst hy
    refine wpList_append_own_none hgd s x t ho B e i 1 ht hi1 v n xs hs hown hx ?_
    obtain ⟨A, c, rfl, _, _, _⟩ := own_form hown
    exact h A c W (by simpa using hown) ⟨rfl, rfl, rfl, Nat.le_refl _, fun _ _ _ => rfl⟩ (fun b hb => Or.inl hb)
  · refine wpList_append_own_at (P := P) W hgd s x t ho B e i z 1 bytes ht hi1 hi2 hi3 hi4 hzs (by omega) v n xs hs hown ⟨g, 0, none⟩ m cap ys hx hu.1 ?_ h1 hn' hn hB ?_
    · intro j y hj
      have hadd : (⟨g, 0, none⟩ : Addr).add j = ⟨g, j, none⟩ := by unfold Addr.add; split <;> simp_all
      rw [hadd]
      exact own_cell hu hj
    · intro v' w' h2 hg2 _ h5
      obtain ⟨A, c, rfl, _, _, _⟩ := own_form h2
      refine h A c w' h2 hg2 (fun b hb => ?_)
      rw [hb] at h5
      rcases h5 with h5 | h5
      · exact Or.inl h5.symm
      · right; simp at h5; omega
theorem _root_.Go.World.ownsRow.below_row {w w' : World} {B K n : Nat} {e : TypeId} {v : Value} {xs : List Value} (h : w.ownsRow B e K v n xs) (hb : Below w.heap.size w w') : w'.ownsRow B e K v n xs :=
  h.kept (row := none) ⟨hb.os, hb.tape, hb.output, hb.size, fun x hx _ => hb.block x hx⟩ (by cases v.ownBlock <;> simp)

end Go.Proofs.YtmcelgokchhpfaaGreatDoor

namespace Go.Proofs.YtmcelgokchhpfaaGreatDoor
open Go.RowKit Go.Deep

theorem GrownX.cell {p : Nat → Prop} {a b : World} {n o : Nat} {v : Value} (g : GrownX p a b) (h : a.cell? ⟨n, o, none⟩ = some v) (hn : ¬ p n) : b.cell? ⟨n, o, none⟩ = some v := by
  have hl := World.block_lt_of_cell? _ _ h
  simp only at hl
  have h2 := g.block n hl hn
  unfold World.cell? at h ⊢
  simp only [h2]
  exact h

/-- the memory while two numbers are pushed -/
structure W47 (N bk : Nat) (Ad Am : Option Addr) (nD cd cm : Nat) (k cnt : Int) (kN aN gmn gct ra nO c5 nn cc : Nat) (dl ml : List Int) (p1 : ByteArray) (W1 : World) (p q : Bool) (x4 x18 : Value) (w : World) : Prop where
  ht : CB w bk 44 #[.string p1, .slice Ad nD cd, .slice Am nD cm]
  hb : GrownX (fun b => (Value.slice Ad nD cd).ownBlock = some b ∨ (Value.slice Am nD cm).ownBlock = some b) W1 w
  hN : N ≤ W1.heap.size
  lt : ∀ b, (Value.slice Ad nD cd).ownBlock = some b → b < W1.heap.size
  h0 : p = false → q = false ∧ w.ownsRow N 3 1 (.slice Ad nD cd) (nD) (intCells (dl)) ∧ w.ownsRow N 3 1 (.slice Am nD cm) (nD) (intCells (ml)) ∧ Apart (.slice Ad nD cd) (.slice Am nD cm)
  h1 : p = true → q = false → w.ownsRow N 3 1 (x4) (nD + 1) (intCells (dl ++ [k])) ∧ w.ownsRow N 3 1 (.slice Am nD cm) (nD) (intCells (ml)) ∧ Apart x4 (.slice Am nD cm) ∧ (∀ b, (x4).ownBlock = some b → (Value.slice Ad nD cd).ownBlock = some b ∨ W1.heap.size ≤ b)
  h2 : q = true → w.ownsRow N 3 1 (x4) (nD + 1) (intCells (dl ++ [k])) ∧ w.ownsRow N 3 1 (x18) (nD + 1) (intCells (ml ++ [cnt])) ∧ Apart x4 x18 ∧ (∀ b, (x4).ownBlock = some b → (Value.slice Ad nD cd).ownBlock = some b ∨ W1.heap.size ≤ b) ∧ (∀ b, (x18).ownBlock = some b → (Value.slice Am nD cm).ownBlock = some b ∨ W1.heap.size ≤ b)
theorem W47.start {N bk : Nat} {Ad Am : Option Addr} {nD cd cm : Nat} {k cnt : Int} {kN aN gmn gct ra nO c5 nn cc : Nat} {dl ml : List Int} {p1 : ByteArray} {W1 : World} {x4 x18 : Value} (ht : CB W1 bk 44 #[.string p1, .slice Ad nD cd, .slice Am nD cm]) (hN : N ≤ W1.heap.size) (h1 : W1.ownsRow N 3 1 (.slice Ad nD cd) nD (intCells dl)) (h2 : W1.ownsRow N 3 1 (.slice Am nD cm) nD (intCells ml)) (h3 : Apart (.slice Ad nD cd) (.slice Am nD cm)) : W47 N bk Ad Am nD cd cm k cnt kN aN gmn gct ra nO c5 nn cc dl ml p1 W1 false false x4 x18 W1 :=
  ⟨ht, GrownX.refl _ _, hN, fun b hb => own_lt h1 b hb, fun _ => ⟨rfl, h1, h2, h3⟩, fun h => (by cases h), fun h => (by cases h)⟩
theorem W47.alloc {N bk : Nat} {Ad Am : Option Addr} {nD cd cm : Nat} {k cnt : Int} {kN aN gmn gct ra nO c5 nn cc : Nat} {dl ml : List Int} {p1 : ByteArray} {W1 : World} {p q : Bool} {x4 x18 : Value} {w : World} (h : W47 N bk Ad Am nD cd cm k cnt kN aN gmn gct ra nO c5 nn cc dl ml p1 W1 p q x4 x18 w) (o : Obj) : W47 N bk Ad Am nD cd cm k cnt kN aN gmn gct ra nO c5 nn cc dl ml p1 W1 p q x4 x18 (w.alloc o) :=
  ⟨h.ht.alloc o, h.hb.alloc o, h.hN, h.lt, fun hp => ⟨(h.h0 hp).1, own_alloc (h.h0 hp).2.1 o, own_alloc (h.h0 hp).2.2.1 o, (h.h0 hp).2.2.2⟩, fun hp hq => ⟨own_alloc (h.h1 hp hq).1 o, own_alloc (h.h1 hp hq).2.1 o, (h.h1 hp hq).2.2⟩, fun hq => ⟨own_alloc (h.h2 hq).1 o, own_alloc (h.h2 hq).2.1 o, (h.h2 hq).2.2⟩⟩
theorem W47.step {N bk : Nat} {Ad Am : Option Addr} {nD cd cm : Nat} {k cnt : Int} {kN aN gmn gct ra nO c5 nn cc : Nat} {dl ml : List Int} {p1 : ByteArray} {W1 : World} {L : Array Bool} {i : Nat} {x4 x18 : Value} {w : World} (h1 : i ≠ 4) (h2 : i ≠ 18) (h : W47 N bk Ad Am nD cd cm k cnt kN aN gmn gct ra nO c5 nn cc dl ml p1 W1 (L.getD 4 false) (L.getD 18 false) x4 x18 w) : W47 N bk Ad Am nD cd cm k cnt kN aN gmn gct ra nO c5 nn cc dl ml p1 W1 ((L.setIfInBounds i true).getD 4 false) ((L.setIfInBounds i true).getD 18 false) x4 x18 w := by
  rw [getD_set_ne false h1, getD_set_ne false h2]; exact h
def W48 (N bk : Nat) (Ad Am : Option Addr) (nD cd cm : Nat) (k cnt : Int) (kN aN gmn gct ra nO c5 nn cc : Nat) (dl ml : List Int) (p1 : ByteArray) (W1 : World) (x4 x18 : Value) (w : World) : Prop := ∃ wz, W47 N bk Ad Am nD cd cm k cnt kN aN gmn gct ra nO c5 nn cc dl ml p1 W1 true true x4 x18 wz ∧ w = wz.setCell ⟨bk, 1, none⟩ x4
def W49 (N bk : Nat) (Ad Am : Option Addr) (nD cd cm : Nat) (k cnt : Int) (kN aN gmn gct ra nO c5 nn cc : Nat) (dl ml : List Int) (p1 : ByteArray) (W1 : World) (x4 x18 : Value) (w : World) : Prop := ∃ wz, W47 N bk Ad Am nD cd cm k cnt kN aN gmn gct ra nO c5 nn cc dl ml p1 W1 true true x4 x18 wz ∧ w = (wz.setCell ⟨bk, 1, none⟩ x4).setCell ⟨bk, 2, none⟩ x18
/-- the memory at a set of what has come up -/
structure WS47 (N bk : Nat) (Ad Am : Option Addr) (nD cd cm : Nat) (k cnt : Int) (kN aN gmn gct ra nO c5 nn cc : Nat) (dl ml : List Int) (p1 : ByteArray) (W1 : World) (L : Array Bool) (x4 x18 : Value) (w : World) : Prop where
  w0 : L.getD 20 false = false → W47 N bk Ad Am nD cd cm k cnt kN aN gmn gct ra nO c5 nn cc dl ml p1 W1 (L.getD 4 false) (L.getD 18 false) x4 x18 w
  w1 : L.getD 20 false = true → L.getD 22 false = false → W48 N bk Ad Am nD cd cm k cnt kN aN gmn gct ra nO c5 nn cc dl ml p1 W1 x4 x18 w
  w2 : L.getD 22 false = true → W49 N bk Ad Am nD cd cm k cnt kN aN gmn gct ra nO c5 nn cc dl ml p1 W1 x4 x18 w
theorem WS47.same {N bk : Nat} {Ad Am : Option Addr} {nD cd cm : Nat} {k cnt : Int} {kN aN gmn gct ra nO c5 nn cc : Nat} {dl ml : List Int} {p1 : ByteArray} {W1 : World} {L : Array Bool} {i : Nat} {x4 x18 : Value} {w : World} (h1 : i ≠ 4) (h2 : i ≠ 18) (h3 : i ≠ 20) (h4 : i ≠ 22) (h : WS47 N bk Ad Am nD cd cm k cnt kN aN gmn gct ra nO c5 nn cc dl ml p1 W1 L x4 x18 w) : WS47 N bk Ad Am nD cd cm k cnt kN aN gmn gct ra nO c5 nn cc dl ml p1 W1 (L.setIfInBounds i true) x4 x18 w := by
  refine ⟨?_, ?_, ?_⟩
  · rw [getD_set_ne false h1, getD_set_ne false h2, getD_set_ne false h3]; exact h.w0
  · rw [getD_set_ne false h3, getD_set_ne false h4]; exact h.w1
  · rw [getD_set_ne false h4]; exact h.w2
theorem WS47.before {N bk : Nat} {Ad Am : Option Addr} {nD cd cm : Nat} {k cnt : Int} {kN aN gmn gct ra nO c5 nn cc : Nat} {dl ml : List Int} {p1 : ByteArray} {W1 : World} {L : Array Bool} {i : Nat} {x4 x18 : Value} {w : World} (h3 : i ≠ 20) (h4 : i ≠ 22) (n20 : L.getD 20 false = false) (n22 : L.getD 22 false = false) (h : W47 N bk Ad Am nD cd cm k cnt kN aN gmn gct ra nO c5 nn cc dl ml p1 W1 ((L.setIfInBounds i true).getD 4 false) ((L.setIfInBounds i true).getD 18 false) x4 x18 w) : WS47 N bk Ad Am nD cd cm k cnt kN aN gmn gct ra nO c5 nn cc dl ml p1 W1 (L.setIfInBounds i true) x4 x18 w := by
  refine ⟨fun _ => h, fun h1 => ?_, fun h1 => ?_⟩
  · rw [getD_set_ne false h3, n20] at h1; cases h1
  · rw [getD_set_ne false h4, n22] at h1; cases h1
def IR47 (fr : Value → Value → Value → Value → Value → Value → Value → Value → Value → Value → Value → Value → Value → Value → Value → Value → Value → Value → Value → Value → Value → Act) (N bk : Nat) (Ad Am : Option Addr) (nD cd cm : Nat) (k cnt : Int) (kN aN gmn gct ra nO c5 nn cc : Nat) (dl ml : List Int) (p1 : ByteArray) (W1 : World) (L : Array Bool) (a : Act) (w : World) : Prop :=
  ∃ x0 x1 x2 x3 x4 x5 x6 x7 x8 x9 x10 x11 x12 x13 x14 x15 x16 x17 x18 x19 x21 : Value, a = fr x0 x1 x2 x3 x4 x5 x6 x7 x8 x9 x10 x11 x12 x13 x14 x15 x16 x17 x18 x19 x21 ∧ WS47 N bk Ad Am nD cd cm k cnt kN aN gmn gct ra nO c5 nn cc dl ml p1 W1 L x4 x18 w ∧ (L.getD 0 false = true → x0 = .pointer (some ⟨bk, 1, none⟩)) ∧ (L.getD 1 false = true → x1 = .slice Ad nD cd) ∧ (L.getD 2 false = true → x2 = .int .i64 k) ∧ (L.getD 3 false = true → L.getD 4 false = false → ∃ gd : Nat, x3 = .slice (some ⟨gd, 0, none⟩) 1 1 ∧ W1.heap.size ≤ gd ∧ gd < w.heap.size ∧ CB w gd 3 #[.int .i64 k]) ∧ (L.getD 4 false = true → ∃ g7 k7 : Nat, x4 = .slice (some ⟨g7, 0, none⟩) (nD + 1) k7) ∧ (L.getD 5 false = true → x5 = .pointer (some ⟨bk, 2, none⟩)) ∧ (L.getD 6 false = true → x6 = .slice Am nD cm) ∧ (L.getD 7 false = true → x7 = .slice (some ⟨gmn, 0, none⟩) nO c5) ∧ (L.getD 8 false = true → x8 = .int .i64 k) ∧ (L.getD 9 false = true → x9 = .pointer (some ⟨gmn, kN, none⟩)) ∧ (L.getD 10 false = true → x10 = .slice (some ⟨gct, 0, none⟩) nn cc) ∧ (L.getD 11 false = true → x11 = .slice (some ⟨ra, 0, none⟩) nO nO) ∧ (L.getD 12 false = true → x12 = .int .i64 k) ∧ (L.getD 13 false = true → x13 = .pointer (some ⟨ra, kN, none⟩)) ∧ (L.getD 14 false = true → x14 = .int .i64 (aN : Int)) ∧ (L.getD 15 false = true → x15 = .pointer (some ⟨gct, aN, none⟩)) ∧ (L.getD 16 false = true → x16 = .int .i64 cnt) ∧ (L.getD 17 false = true → L.getD 18 false = false → ∃ gi : Nat, x17 = .slice (some ⟨gi, 0, none⟩) 1 1 ∧ CB w gi 3 #[.int .i64 cnt] ∧ (∀ b, (Value.slice Ad nD cd).ownBlock = some b → b ≠ gi)) ∧ (L.getD 18 false = true → ∃ g9 k9 : Nat, x18 = .slice (some ⟨g9, 0, none⟩) (nD + 1) k9) ∧ (L.getD 19 false = true → x19 = .pointer (some ⟨bk, 1, none⟩)) ∧ (L.getD 21 false = true → x21 = .pointer (some ⟨bk, 2, none⟩))
theorem IR47.start {m : Nat} {fr : Value → Value → Value → Value → Value → Value → Value → Value → Value → Value → Value → Value → Value → Value → Value → Value → Value → Value → Value → Value → Value → Act} {N bk : Nat} {Ad Am : Option Addr} {nD cd cm : Nat} {k cnt : Int} {kN aN gmn gct ra nO c5 nn cc : Nat} {dl ml : List Int} {p1 : ByteArray} {W1 : World} {a : Act} {w : World} (x0 x1 x2 x3 x4 x5 x6 x7 x8 x9 x10 x11 x12 x13 x14 x15 x16 x17 x18 x19 x21 : Value) (h : a = fr x0 x1 x2 x3 x4 x5 x6 x7 x8 x9 x10 x11 x12 x13 x14 x15 x16 x17 x18 x19 x21) (hW : W47 N bk Ad Am nD cd cm k cnt kN aN gmn gct ra nO c5 nn cc dl ml p1 W1 false false x4 x18 w) : IR47 fr N bk Ad Am nD cd cm k cnt kN aN gmn gct ra nO c5 nn cc dl ml p1 W1 (Array.replicate m false) a w :=
  ⟨x0, x1, x2, x3, x4, x5, x6, x7, x8, x9, x10, x11, x12, x13, x14, x15, x16, x17, x18, x19, x21, h, ⟨fun _ => by rw [getD_replicate_false, getD_replicate_false]; exact hW, fun h => (by rw [getD_replicate_false] at h; cases h), fun h => (by rw [getD_replicate_false] at h; cases h)⟩, (fun h => by rw [getD_replicate_false] at h; cases h), (fun h => by rw [getD_replicate_false] at h; cases h), (fun h => by rw [getD_replicate_false] at h; cases h), (fun h => by rw [getD_replicate_false] at h; cases h), (fun h => by rw [getD_replicate_false] at h; cases h), (fun h => by rw [getD_replicate_false] at h; cases h), (fun h => by rw [getD_replicate_false] at h; cases h), (fun h => by rw [getD_replicate_false] at h; cases h), (fun h => by rw [getD_replicate_false] at h; cases h), (fun h => by rw [getD_replicate_false] at h; cases h), (fun h => by rw [getD_replicate_false] at h; cases h), (fun h => by rw [getD_replicate_false] at h; cases h), (fun h => by rw [getD_replicate_false] at h; cases h), (fun h => by rw [getD_replicate_false] at h; cases h), (fun h => by rw [getD_replicate_false] at h; cases h), (fun h => by rw [getD_replicate_false] at h; cases h), (fun h => by rw [getD_replicate_false] at h; cases h), (fun h => by rw [getD_replicate_false] at h; cases h), (fun h => by rw [getD_replicate_false] at h; cases h), (fun h => by rw [getD_replicate_false] at h; cases h), (fun h => by rw [getD_replicate_false] at h; cases h)⟩

end Go.Proofs.YtmcelgokchhpfaaGreatDoor

namespace Go.Proofs.YtmcelgokchhpfaaGreatDoor
open Go.RowKit Go.Deep

/-- a row that lies apart from the box and from what is new -/
def OwnF (w : World) (X r B : Nat) (e : TypeId) (K : Nat) (v : Value) (n : Nat) (xs : List Value) : Prop := w.ownsRow B e K v n xs ∧ ∀ b, v.ownBlock = some b → ¬ Far X r b
theorem OwnF.far {w w' : World} {X r B K n : Nat} {e : TypeId} {v : Value} {xs : List Value} (h : OwnF w X r B e K v n xs) (g : GrownX (Far X r) w w') : OwnF w' X r B e K v n xs := ⟨own_keepX h.1 g h.2, h.2⟩
structure RefFix (w : World) (N X r : Nat) (D : List DocR) (dv sv st mn : Value) (nv cv : Nat → Value) : Prop where
  hr : CB w N 26 #[.slice none 0 0, .slice none 0 0, .slice none 0 0]
  hNX : N < X
  hXr : X < r
  hrl : r ≤ w.heap.size
  hd : OwnF w X r N 33 3 dv (nixD D).length (docCells (nixD D))
  hs : OwnF w X r N 3 1 sv (nixS D).length (intCells (nixS D))
  hst : OwnF w X r N 38 1 st D.length ((List.range D.length).map nv)
  hmn : OwnF w X r N 23 1 mn D.length ((List.range D.length).map cv)
  nm : ∀ i, i < D.length → OwnF w X r N 9 1 (nv i) (nmL D i).length (strCells (nmL D i))
  ct : ∀ i, i < D.length → OwnF w X r N 3 1 (cv i) (nmL D i).length (intCells (ctL D i))
section
variable {w w' : World} {N X r : Nat} {D : List DocR} {dv sv tm st mn : Value} {nv cv : Nat → Value}
theorem RefFix.far (h : RefFix w N X r D dv sv st mn nv cv) (g : GrownX (Far X r) w w') : RefFix w' N X r D dv sv st mn nv cv :=
  ⟨h.hr.keepX g (by have h1 := h.hNX; have h2 := h.hXr; rintro (e | e) <;> omega), h.hNX, h.hXr, Nat.le_trans h.hrl g.size, h.hd.far g, h.hs.far g, h.hst.far g, h.hmn.far g, fun i hi => (h.nm i hi).far g, fun i hi => (h.ct i hi).far g⟩
theorem RefFix.below (h : RefFix w N X r D dv sv st mn nv cv) (hb : Below w.heap.size w w') : RefFix w' N X r D dv sv st mn nv cv := h.far (GrownX.of_below hb)
/-- the words of all documents have been sorted -/
theorem RefIn.fix {ds : List DocR} {ss : List Int} {tl : List (List UInt8)} (h : RefIn w N X D D.length dv sv tm st mn ds ss tl nv cv) (e1 : ds = nixD D) (e2 : ss = nixS D) (g : GrownX (fun x => tm.ownBlock = some x ∨ w.heap.size ≤ x) w w') : RefFix w' N X w.heap.size D dv sv st mn nv cv ∧ CB w' X 26 #[dv, sv, .slice none 0 0] := by
  subst e1; subst e2
  have hXl := h.hx.lt
  have K : ∀ {e : TypeId} {n q : Nat} {v : Value} {xs : List Value}, w.ownsRow N e q v n xs → 26 ≠ e → (∀ b, v.ownBlock = some b → ¬ tm.ownBlock = some b) → OwnF w' X w.heap.size N e q v n xs := fun ho h2 h3 =>
    ⟨own_keepX ho g (fun b hb e => by
      rcases e with e | e
      · exact h3 b hb e
      · have := own_lt ho b hb; omega), fun b hb e => by
      rcases e with e | e
      · exact own_cb ho h.hx h2 b hb e
      · have := own_lt ho b hb; omega⟩
  have kb : ∀ {n : Nat} {cs : Array Value}, CB w n 26 cs → CB w' n 26 cs := fun hc => hc.keepX g (fun e => by
    rcases e with e | e
    · exact own_cb h.ht hc (by decide) _ e rfl
    · have := hc.lt; omega)
  exact ⟨⟨kb h.hr, h.hNX, hXl, g.size, K h.hd (by decide) (own_ne h.hd h.ht (by decide)), K h.hs (by decide) (own_ne h.hs h.ht (by decide)), K h.hst (by decide) (own_ne h.hst h.ht (by decide)), K h.hmn (by decide) (own_ne h.hmn h.ht (by decide)),
    fun i hi => K (h.nm i hi) (by decide) (h.an i hi), fun i hi => K (h.ct i hi) (by decide) (own_ne (h.ct i hi) h.ht (by decide))⟩, kb h.hx⟩
end

/-- how far each document's names are taken -/
def atP (D : List DocR) (S : List (List UInt8)) (q : Nat) : List Int := (List.range D.length).map fun d => ((aq S (nmL D d) q : Nat) : Int)
/-- the same in the midst of a round -/
def atM (D : List DocR) (S : List (List UInt8)) (q d : Nat) : List Int := (List.range D.length).map fun i => (((if i < d then aq S (nmL D i) (q + 1) else aq S (nmL D i) q) : Nat) : Int)
theorem atM_zero (D : List DocR) (S : List (List UInt8)) (q : Nat) : atM D S q 0 = atP D S q := List.map_congr_left (fun i _ => by rw [if_neg (by omega)])
theorem atM_end (D : List DocR) (S : List (List UInt8)) (q : Nat) : atM D S q D.length = atP D S (q + 1) := List.map_congr_left (fun i hi => by rw [if_pos (List.mem_range.1 hi)])
theorem atM_len (D : List DocR) (S : List (List UInt8)) (q d : Nat) : (atM D S q d).length = D.length := by simp [atM]
theorem atM_get {D : List DocR} {S : List (List UInt8)} {q d : Nat} (hd : d < D.length) : (atM D S q d)[d]? = some ((aq S (nmL D d) q : Nat) : Int) := by simp [atM, hd]
theorem atM_same {D : List DocR} {S : List (List UInt8)} {q d : Nat} (h : aq S (nmL D d) (q + 1) = aq S (nmL D d) q) : atM D S q (d + 1) = atM D S q d := List.map_congr_left (fun i _ => by
  by_cases e : i < d
  · rw [if_pos (by omega), if_pos e]
  · by_cases e2 : i = d
    · subst e2; rw [if_pos (by omega), if_neg e, h]
    · rw [if_neg (by omega), if_neg e])
theorem atM_step {D : List DocR} {S : List (List UInt8)} {q d : Nat} (hd : d < D.length) (h : aq S (nmL D d) (q + 1) = aq S (nmL D d) q + 1) : atM D S q (d + 1) = (atM D S q d).set d (((aq S (nmL D d) q : Nat) : Int) + 1) := by
  apply List.ext_getElem?
  intro i
  rw [List.getElem?_set]
  by_cases e : d = i
  · subst e
    rw [if_pos rfl]
    simp [atM, hd, h]
  · rw [if_neg e]
    simp only [atM, List.getElem?_map]
    cases hi : (List.range D.length)[i]? with
    | none => rfl
    | some x =>
      have : x = i := by
        have h9 := (List.getElem?_eq_some_iff.1 hi).2
        rw [List.getElem_range] at h9
        exact h9.symm
      subst this
      simp only [Option.map_some]
      by_cases e2 : x < d
      · rw [if_pos (by omega), if_pos e2]
      · rw [if_neg (by omega), if_neg e2]
theorem at_zero (D : List DocR) (S : List (List UInt8)) : atP D S 0 = List.replicate D.length 0 := by
  have : atP D S 0 = (List.range D.length).map fun _ => (0 : Int) := List.map_congr_left (fun i _ => by rw [aq_zero]; rfl)
  rw [this, List.map_const', List.length_range]
/-- a name's place in a document's row -/
theorem ref_step {D : List DocR} {q d : Nat} {s : List UInt8} (hd : d < D.length) (hq : (nixK D)[q]? = some s) :
    (0 < wAt D d s ∧ (nmL D d)[aq (nixK D) (nmL D d) q]? = some s ∧ (ctL D d)[aq (nixK D) (nmL D d) q]? = some ((wAt D d s : Nat) : Int) ∧ aq (nixK D) (nmL D d) (q + 1) = aq (nixK D) (nmL D d) q + 1) ∨
    (wAt D d s = 0 ∧ (nmL D d)[aq (nixK D) (nmL D d) q]? ≠ some s ∧ aq (nixK D) (nmL D d) (q + 1) = aq (nixK D) (nmL D d) q) := by
  have hsub : ∀ x ∈ nmL D d, x ∈ nixK D := fun x hx => by
    rw [nixK, namesL_mem, allW_mem]
    exact ⟨d, hd, nmL_mem.1 hx⟩
  rcases aq_step (nixK_lt D) (nmL_lt D d) hsub hq with ⟨h1, h2, h3⟩ | ⟨h1, h2, h3⟩
  · exact Or.inl ⟨nmL_mem.1 h1, h2, by rw [ctL, List.getElem?_map, h2]; rfl, h3⟩
  · refine Or.inr ⟨?_, h2, h3⟩
    rw [nmL_mem] at h1
    omega

/-- the terms so far -/
structure Ref2 (w : World) (N X r : Nat) (D : List DocR) (dv sv st mn tv Sv : Value) (nv cv : Nat → Value) (q : Nat) (al : List Int) (L : List (TermR × Value × Value)) : Prop where
  fx : RefFix w N X r D dv sv st mn nv cv
  hx : CB w X 26 #[dv, sv, tv]
  ha : w.ownsRow r 3 1 (.slice (some ⟨r, 0, none⟩) D.length D.length) D.length (intCells al)
  hS : w.ownsRow (r + 1) 9 1 Sv (nixK D).length (strCells (nixK D))
  ot : w.ownsRow (r + 1) 44 3 tv L.length (termCells L)
  ow : ∀ x ∈ L, w.ownsRow (r + 1) 3 1 x.2.1 x.1.docs.length (intCells x.1.docs) ∧ w.ownsRow (r + 1) 3 1 x.2.2 x.1.many.length (intCells x.1.many)
  oL : L.map (·.1) = ((nixK D).take q).map (nixTerm D)
section
variable {w w' : World} {N X r q : Nat} {D : List DocR} {dv sv st mn tv Sv : Value} {nv cv : Nat → Value} {al : List Int} {L : List (TermR × Value × Value)}
theorem Ref2.below (h : Ref2 w N X r D dv sv st mn tv Sv nv cv q al L) (hb : Below w.heap.size w w') : Ref2 w' N X r D dv sv st mn tv Sv nv cv q al L :=
  ⟨h.fx.below hb, h.hx.below hb, own_rowT h.ha (grown_none hb) (RowT.none _ _), own_rowT h.hS (grown_none hb) (RowT.none _ _), own_rowT h.ot (grown_none hb) (RowT.none _ _), fun x hx => ⟨own_rowT (h.ow x hx).1 (grown_none hb) (RowT.none _ _), own_rowT (h.ow x hx).2 (grown_none hb) (RowT.none _ _)⟩, h.oL⟩
/-- what is new turns, and the row of places -/
theorem Ref2.places {al2 : List Int} (h : Ref2 w N X r D dv sv st mn tv Sv nv cv q al L) (g : GrownX (fun x => x = r ∨ w.heap.size ≤ x) w w') (ha : w'.ownsRow r 3 1 (.slice (some ⟨r, 0, none⟩) D.length D.length) D.length (intCells al2)) : Ref2 w' N X r D dv sv st mn tv Sv nv cv q al2 L := by
  have K : ∀ {e : TypeId} {n q : Nat} {v : Value} {xs : List Value}, w.ownsRow (r + 1) e q v n xs → w'.ownsRow (r + 1) e q v n xs := fun ho => own_keepX ho g (fun b hb e => by
    have h1 := (ho.lt b hb).1
    have h2 := own_lt ho b hb
    rcases e with e | e <;> omega)
  refine ⟨h.fx.far (g.mono (fun x hx e => by rcases e with e | e; exact Or.inr (by omega); exact absurd hx (by omega))), h.hx.keepX g ?_, ha, K h.hS, K h.ot, fun x hx => ⟨K (h.ow x hx).1, K (h.ow x hx).2⟩, h.oL⟩
  have h1 := h.fx.hXr
  have h2 := h.hx.lt
  rintro (e | e) <;> omega
/-- a term is pushed -/
theorem Ref2.push {tv' d2 m2 : Value} {s : List UInt8} (h : Ref2 w N X r D dv sv st mn tv Sv nv cv q al L) (hq : (nixK D)[q]? = some s) (hd : w.ownsRow (r + 1) 3 1 d2 (nixTerm D s).docs.length (intCells (nixTerm D s).docs)) (hm : w.ownsRow (r + 1) 3 1 m2 (nixTerm D s).many.length (intCells (nixTerm D s).many))
    (hg : w.grownBy w' tv.ownBlock) (ho : w'.ownsRow (r + 1) 44 3 tv' (L.length + 1) (termCells L ++ [.string (str0 s), d2, m2])) : Ref2 (w'.setCell ⟨X, 2, none⟩ tv') N X r D dv sv st mn tv' Sv nv cv (q + 1) al (L ++ [(nixTerm D s, d2, m2)]) := by
  have hx1 : CB w' X 26 #[dv, sv, tv] := h.hx.push h.ot (by decide) hg
  have g2 := grown_setB w' X 2 tv'
  have K : ∀ {e : TypeId} {B n q : Nat} {v : Value} {xs : List Value}, w.ownsRow B e q v n xs → 44 ≠ e → 26 ≠ e → (w'.setCell ⟨X, 2, none⟩ tv').ownsRow B e q v n xs := fun ho h1 h2 => own_rowT (own_rowT ho hg (RowT.own h.ot h1)) g2 (RowT.cb hx1 h2)
  have gf : GrownX (Far X r) w (w'.setCell ⟨X, 2, none⟩ tv') := (GrownX.of_grown hg (fun g hg2 => Or.inr (by have := (h.ot.lt g hg2).1; omega))).trans (GrownX.of_grown g2 (fun g hg2 => Or.inl (Option.some.inj hg2).symm))
  refine ⟨h.fx.far gf, hx1.put 2 _, K h.ha (by decide) (by decide), K h.hS (by decide) (by decide), ?_, fun x hx => ?_, ?_⟩
  · rw [termCells_snoc, List.length_append]
    exact own_rowT ho g2 (RowT.cb hx1 (by decide))
  · rcases List.mem_append.1 hx with h1 | h1
    · exact ⟨K (h.ow x h1).1 (by decide) (by decide), K (h.ow x h1).2 (by decide) (by decide)⟩
    · simp only [List.mem_singleton] at h1
      subst h1
      exact ⟨K hd (by decide) (by decide), K hm (by decide) (by decide)⟩
  · obtain ⟨h1, h2⟩ := List.getElem?_eq_some_iff.1 hq
    rw [List.map_append, h.oL, List.take_succ_eq_append_getElem h1, List.map_append, h2]
    rfl
theorem Ref2.own (h : Ref2 w N X r D dv sv st mn tv Sv nv cv (nixK D).length al L) (hi : (∀ n ∈ nixS D, I64 n) ∧ ∀ t ∈ nixT D, (∀ n ∈ t.docs, I64 n) ∧ ∀ n ∈ t.many, I64 n) : IdxOwn w N dv sv tv ⟨nixD D, nixS D, nixT D⟩ L := by
  have hNr : N ≤ r + 1 := by have := h.fx.hNX; have := h.fx.hXr; omega
  have hL := h.oL
  rw [List.take_length] at hL
  refine ⟨hL, h.fx.hd.1, h.fx.hs.1, own_base h.ot hNr, fun x hx => ⟨own_base (h.ow x hx).1 hNr, own_base (h.ow x hx).2 hNr⟩, hi.1, fun x hx => hi.2 _ ?_⟩
  rw [nixT, ← hL]
  exact List.mem_map.2 ⟨x, hx, rfl⟩
end

end Go.Proofs.YtmcelgokchhpfaaGreatDoor
