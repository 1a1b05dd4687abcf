/-
  sort.Slice over outputs in a row of the call's own, by path.
-/
import Derived.Test.YtogjhcmaapplgaaDoorApOwn
import Derived.Test.YtogjhcmaapplgaaDoorApLess
import Derived.Test.YtogjhcmaapplgaaDoorShelf
import Derived.Shelf.SlSortFuncK.WholeK
import Derived.Shelf.GgSortFunc.Tiny
namespace Go.Proofs.YtogjhcmaapplgaaDoor
open Go.RowKit Go.Deep
open Go.Sort (SWO PermIn SortedIn HoldsK putRowK flatK get_flatK size_flatK grow putCells mapBlock onCells holdsK_grow holdsK_ahead putRowK_grow cell?_putRowK_other cell?_grow holdsK_putRowK size_grow heap_grow_old)

instance : Inhabited OutV := ⟨⟨⟨#[]⟩, ⟨#[]⟩⟩⟩
def ltO (x y : OutV) : Bool := decide (pathL x < pathL y)
theorem swo_ltO : SWO ltO where
  irrefl := fun x => by simp [ltO, List.lt_irrefl]
  trans := fun x y z h1 h2 => by
    simp only [ltO, decide_eq_true_eq] at *
    exact List.lt_trans h1 h2
  ntrans := fun x y z h1 h2 => by
    simp only [ltO, decide_eq_false_iff_not] at *
    exact fun h => h2 (by
      rcases List.le_total (pathL z) (pathL y) with h3 | h3
      · exact absurd (Std.lt_of_lt_of_le h h3) h1
      · by_cases h4 : pathL y = pathL z
        · rw [← h4] at h; exact absurd h h1
        · exact Std.lt_of_le_of_ne h3 h4)
noncomputable def svT : TypeInfo := (Tryd.prog.info? 22).get (by kernel_rfl)
noncomputable def svE : TypeInfo := (Tryd.prog.info? 30).get (by kernel_rfl)
theorem svK (n : Nat) (h2 : 2 ≤ n) : Lib.swapperK n svE 25 = 9 := by
  have a : svE.hasPointers = true := by kernel_rfl
  have b : svE.bytes = 32 := by kernel_rfl
  have c : (n == 0) = false := by simp; omega
  have d : (n == 1) = false := by simp; omega
  simp [Lib.swapperK, a, b, c, d]

theorem flat_outs (L : List OutV) (j : Nat) (h : j < L.length * 2) : (outsC L)[j]? = some (flatK outC 2 L.toArray)[j]! := by
  rw [get_flatK outC 2 L.toArray j (by simpa using h)]
  have hi : j / 2 < L.length := by omega
  obtain ⟨h1, h2⟩ := outsC_at L (j / 2) L[j / 2] (List.getElem?_eq_getElem hi)
  have hg : L.toArray[j / 2]! = L[j / 2] := by simp [hi]
  rw [hg]
  rcases Nat.mod_two_eq_zero_or_one j with hm | hm
  · rw [show j / 2 * 2 = j by omega] at h1
    rw [hm, h1]; rfl
  · rw [show j / 2 * 2 + 1 = j by omega] at h2
    rw [hm, h2]; rfl
theorem holds_outs {w : World} {g : Nat} {cur : Array Value} {e : TypeId} {L : List OutV} (hb : w.heap[g]? = some (.cells cur e (0, 0))) (ht : cur.toList.take (L.length * 2) = outsC L) : HoldsK outC 2 w g 0 L.toArray := by
  intro j hj
  have hj' : j < L.length * 2 := by simpa using hj
  have h0 := flat_outs L j hj'
  rw [← ht, List.getElem?_take_of_lt hj', Array.getElem?_toList] at h0
  refine ⟨?_, by simp [World.frozen?, hb]⟩
  rw [Nat.zero_add]
  rw [cell_of_row w g j cur e (0, 0) hb, h0]; rfl
theorem heap_sortedO {w : World} {g n : Nat} {os : Array Obj} {cur : Array Value} {e : TypeId} {fr : Nat × Nat} (d : Array OutV) (hb : w.heap[g]? = some (.cells cur e fr)) :
    (grow (putRowK outC 2 (Sort.ahead w n) g 0 d) os).heap[g]? = some (.cells (putCells id 0 (flatK outC 2 d) cur) e fr) := by
  have hg : g < w.heap.size := (Array.getElem?_eq_some_iff.1 hb).1
  rw [heap_grow_old _ _ (by simpa [putRowK] using hg)]
  simp [putRowK, Sort.putRow, mapBlock, Sort.ahead, Array.getElem?_modify, hb, onCells]
theorem grownBy_sortedO {w : World} {g n : Nat} {os : Array Obj} (d : Array OutV) : w.grownBy (grow (putRowK outC 2 (Sort.ahead w n) g 0 d) os) (some g) := by
  refine ⟨rfl, rfl, rfl, by simp [putRowK], fun k hk hne => ?_⟩
  rw [heap_grow_old _ _ (by simpa [putRowK] using hk)]
  have : g ≠ k := fun e => hne (by rw [e])
  simp [putRowK, Sort.putRow, mapBlock, Sort.ahead, Array.getElem?_modify, this]
theorem take_putCellsO (cur : Array Value) (L : List OutV) (h : L.length * 2 ≤ cur.size) : (putCells id 0 (flatK outC 2 L.toArray) cur).toList.take (L.length * 2) = outsC L := by
  apply List.ext_getElem?
  intro j
  by_cases hj : j < L.length * 2
  · rw [List.getElem?_take_of_lt hj, Array.getElem?_toList, flat_outs L j hj]
    simp [putCells, hj, show j < cur.size by omega]
  · rw [List.getElem?_take_eq_none (by omega), List.getElem?_eq_none (by rw [outsC_len]; omega)]
theorem ownsRow_sortedO {w : World} {base g cap n : Nat} {e : TypeId} {os : Array Obj} {cur : Array Value} {m : Nat} {L : List OutV} (hl : L.length = m) (hbase : base ≤ g) (hb : w.heap[g]? = some (.cells cur e (0, 0)))
    (h1 : m ≤ cap) (h2 : cap ≤ maxLen) (h3 : cur.size = cap * 2) :
    (grow (putRowK outC 2 (Sort.ahead w n) g 0 L.toArray) os).ownsRow base e 2 (.slice (some ⟨g, 0, none⟩) m cap) m (outsC L) :=
  ⟨by rw [outsC_len, hl], .inr ⟨g, cap, _, rfl, hbase, heap_sortedO _ hb, h1, h2, by simp [putCells, h3], by rw [← hl]; exact take_putCellsO cur L (by omega)⟩⟩

def SortOPost (N : Nat) (v : Value) (L : List OutV) (w : World) (e : Ending) (w' : World) : Prop :=
  e = .returned (.tuple #[]) ∧ ∃ L' : List OutV, L'.Perm L ∧ L'.Pairwise (fun x y => ¬ pathL y < pathL x) ∧ w'.ownsRow N 30 2 v L.length (outsC L') ∧ w.grownBy w' v.ownBlock
set_option maxRecDepth 100000 in
set_option maxHeartbeats 2000000 in
theorem sortSlice_q (N Bs : Nat) (v : Value) (L : List OutV) (w : World) (h : w.ownsRow N 30 2 v L.length (outsC L)) (hl : L.length ≤ 1048576) (hB : w.cell? ⟨Bs, 0, none⟩ = some v) (hne : v.ownBlock ≠ some Bs) :
    Calls Tryd.prog 9 #[.iface 22 v, .func (.func 10) #[] #[.pointer (some ⟨Bs, 0, none⟩)]] w (SortOPost N v L w) := by
  obtain ⟨A, c, rfl, hc, hlc, hA⟩ := own_form h
  by_cases h2 : L.length ≤ 1
  · have tiny : ∀ n : Nat, n ≤ 1 → n = L.length → Calls Tryd.prog 9 #[.iface 22 (.slice A n c), .func (.func 10) #[] #[.pointer (some ⟨Bs, 0, none⟩)]] w fun e w' => e = .returned (.tuple #[]) ∧ ∃ os, w' = grow w os := by
      intro n hn _
      rcases (show n = 0 ∨ n = 1 by omega) with rfl | rfl
      · exact Any.sort_Slice_tiny Tryd.laysGg6 22 30 svT svE (by kernel_rfl) (by kernel_rfl) (by kernel_rfl) (by kernel_rfl) 25 (fun _ => by kernel_rfl) A 0 c (by omega) 24 (by rw [show Lib.swapperK 0 svE 25 = 1 from rfl]; kernel_rfl) _ _ _ w
      · exact Any.sort_Slice_tiny Tryd.laysGg6 22 30 svT svE (by kernel_rfl) (by kernel_rfl) (by kernel_rfl) (by kernel_rfl) 25 (fun _ => by kernel_rfl) A 1 c (by omega) 25 (by rw [show Lib.swapperK 1 svE 25 = 2 from rfl]; kernel_rfl) _ _ _ w
    refine (tiny L.length h2 rfl).mono ?_
    rintro e w' ⟨rfl, os, rfl⟩
    have hb : Below w.heap.size w (grow w os) := Lib.below_grow _ _ (Nat.le_refl _) 0 os
    refine ⟨rfl, L, List.Perm.refl _, ?_, own_keepB2 h hb, grown_below hb⟩
    match L, h2 with
    | [], _ => exact List.Pairwise.nil
    | [a], _ => exact List.pairwise_singleton _ _
  · have h2' : 2 ≤ L.length := by omega
    rcases h.2 with ⟨h3, h0⟩ | ⟨g, cap, cur, hv, hN, hg, hnc, hm, hsz, htake⟩
    · omega
    · cases hv
      have hgl : g < w.heap.size := (Array.getElem?_eq_some_iff.1 hg).1
      have hBl : Bs < w.heap.size := World.block_lt_of_cell? _ _ hB
      have hBg : Bs ≠ g := fun e => hne (by rw [e]; rfl)
      have hH : HoldsK outC 2 w g 0 L.toArray := holds_outs hg htake
      have hsL : L.toArray.size = L.length := by simp
      have hless : LessReadsK Tryd.prog 10 #[.pointer (some ⟨Bs, 0, none⟩)] outC 2 ltO g 0 L.toArray.size w := by
        intro m os dk hs i j hi hj
        have e : sortWorldK outC 2 w g 0 m dk os = putRowK outC 2 (grow (Sort.ahead w m) os) g 0 dk := by
          unfold sortWorldK; rw [putRowK_grow _ _ (Sort.ahead w m) _ g 0 _ hgl]
        have hHg : HoldsK outC 2 (grow (Sort.ahead w m) os) g 0 L.toArray := holdsK_grow _ _ _ _ g 0 L.toArray hgl (holdsK_ahead _ _ _ _ _ _ _ hH)
        refine applyLess_q g 0 L.length c Bs _ (fun t => dk[t]!.path) ?_ (fun t ht => ?_) i j (by omega) (by omega)
        · rw [e, cell?_putRowK_other _ _ _ g 0 dk _ (by exact hBg), cell?_grow _ _ _ (by exact hBl)]; exact hB
        · rw [e]; exact ((holdsK_putRowK _ _ _ g 0 _ dk hHg hs).cell (i := t) (c := 0) (by omega) (by omega)).1
      have key : Calls Tryd.prog 9 #[.iface 22 (.slice (some ⟨g, 0, none⟩) L.toArray.size c), .func (.func 10) #[] #[.pointer (some ⟨Bs, 0, none⟩)]] w fun e w' => e = .returned (.tuple #[]) ∧ ∃ d' n os, PermIn 0 L.toArray.size L.toArray d' ∧ SortedIn ltO 0 L.toArray.size d' ∧ w' = grow (putRowK outC 2 (Sort.ahead w n) g 0 d') os := Any.sort_Slice_cells_sorted Tryd.laysGg6 22 30 svT svE (by kernel_rfl) (by kernel_rfl) (by kernel_rfl) (by kernel_rfl) 25 (fun _ => by kernel_rfl) outC 2 (fun _ => rfl) (by kernel_rfl) (fun _ => by kernel_rfl)
        (fun x v hv => by simp [outC] at hv; rcases hv with rfl | rfl <;> rfl) ltO swo_ltO 10 _
        (enters_of Tryd.func10 (by kernel_rfl) rfl) g 0 c L.toArray (by omega) (by omega) 32 (by rw [svK _ (by omega)]; kernel_rfl) false
        (fun args W => run_callFunc_extern Tryd.func32 (by kernel_rfl) (by kernel_rfl) (by kernel_rfl) (e := Extern.ReflectliteSwapper.swap false) (by kernel_rfl) args W) w hless hH hgl
      rw [hsL] at key
      refine Calls.mono key ?_
      rintro e w' ⟨rfl, d', n, os, hp, hs, rfl⟩
      obtain ⟨hp1, _, hp3⟩ := hp
      have hd : d'.toList.toArray = d' := by simp
      have hl' : d'.toList.length = L.length := by rw [Array.length_toList, hp1, hsL]
      refine ⟨rfl, d'.toList, ?_, ?_, ?_, ?_⟩
      · have e1 : (d'.extract 0 L.length).toList = d'.toList := by rw [show L.length = d'.size by omega]; simp
        have e2 : (L.toArray.extract 0 L.length).toList = L := by rw [← hsL]; simp
        rw [e1, e2] at hp3
        exact hp3
      · rw [List.pairwise_iff_getElem]
        intro i j hi hj hij
        have h9 := hs i j (Nat.zero_le _) hij (by omega)
        simp only [ltO, decide_eq_false_iff_not] at h9
        have e1 : d'[j]! = d'.toList[j] := by simp [show j < d'.size by simpa using hj]
        have e2 : d'[i]! = d'.toList[i] := by simp [show i < d'.size by simpa using hi]
        rw [e1, e2] at h9
        exact h9
      · have := ownsRow_sortedO (n := n) (os := os) hl' hN hg hnc hm (by simpa using hsz)
        rwa [hd] at this
      · exact grownBy_sortedO _

end Go.Proofs.YtogjhcmaapplgaaDoor
