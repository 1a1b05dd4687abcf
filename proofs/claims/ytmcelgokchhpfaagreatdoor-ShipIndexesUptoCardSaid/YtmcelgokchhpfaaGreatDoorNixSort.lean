/-
  sort.Slice over terms in a row of the call's own, by word.
-/
import Derived.Test.YtmcelgokchhpfaaGreatDoorNixPlain
import Derived.Test.YtmcelgokchhpfaaGreatDoorReadOwn
import Derived.Test.YtmcelgokchhpfaaGreatDoorShelf
import Derived.Shelf.SlSortFuncK.WholeK
import Derived.Shelf.GgSortFunc.Tiny
import Derived.BigQuiet
import Derived.Deep.QuietTactic
import Derived.RegionTactic
namespace Go.Proofs.YtmcelgokchhpfaaGreatDoor
open Go.RowKit Go.Deep
open Go.Sort (SWO PermIn SortedIn HoldsK putRowK flatK get_flatK size_flatK grow putCells mapBlock onCells holdsK_grow holdsK_ahead putRowK_grow cell?_putRowK_other cell?_grow holdsK_putRowK size_grow heap_grow_old)

set_option maxRecDepth 100000 in
set_option maxHeartbeats 2000000 in
theorem newLess_q (blk off n c Bs : Nat) (w : World) (pf : Nat → List UInt8) (hB : w.cell? ⟨Bs, 2, none⟩ = some (.slice (some ⟨blk, off, none⟩) n c)) (hc : ∀ t, t < n → w.cell? ⟨blk, off + t * 3, none⟩ = some (.string (str0 (pf t)))) (i j : Nat) (hi : i < n) (hj : j < n) :
    Calls Tryz.prog 12 #[.int .i64 i, .int .i64 j, .pointer (some ⟨Bs, 0, none⟩)] w fun e w' => e = .returned (.bool (decide (pf i < pf j))) ∧ ∃ q, w' = w.drewN q := by
  have k0 := hc i hi
  have k1 := hc j hj
  obtain ⟨x, hx⟩ : ∃ x, str0 (pf i) = x := ⟨_, rfl⟩
  obtain ⟨y, hy⟩ : ∃ y, str0 (pf j) = y := ⟨_, rfl⟩
  have hpx : pf i = x.data.toList := by rw [← hx]; rfl
  have hpy : pf j = y.data.toList := by rw [← hy]; rfl
  rw [hpx, hpy]
  rw [hx] at k0
  rw [hy] at k1
  have HE := Lib.hid (show Op.bytesLess x.toList y.toList = decide (x.data.toList < y.data.toList) by rw [Go.ByteArray.toList_eq, Go.ByteArray.toList_eq, Go.Proofs.bytesLess_eq])
  have hi1 : (i : Int) < (n : Int) := by omega
  have hj1 : (j : Int) < (n : Int) := by omega
  clear hc hx hy hpx hpy
  go_enter Tryz.func12, Tryz.ntmps12
  go_wp2_with fail
  go_quiet (fail)
  go_wp2_with fail
  go_ret
  exact ⟨by rw [← HE.out]; rfl, _, rfl⟩

abbrev Wd := List UInt8
def ltT (x y : Wd) : Bool := decide (x < y)
theorem swo_ltT : SWO ltT where
  irrefl := fun x => by simp [ltT, List.lt_irrefl]
  trans := fun x y z h1 h2 => by
    simp only [ltT, decide_eq_true_eq] at *
    exact List.lt_trans h1 h2
  ntrans := fun x y z h1 h2 => by
    simp only [ltT, decide_eq_false_iff_not] at *
    exact fun h => h2 (by
      rcases List.le_total (z) (y) with h3 | h3
      · exact absurd (Std.lt_of_lt_of_le h h3) h1
      · by_cases h4 : y = z
        · rw [← h4] at h; exact absurd h h1
        · exact Std.lt_of_le_of_ne h3 h4)
noncomputable def tvT : TypeInfo := (Tryz.prog.info? 24).get (by kernel_rfl)
noncomputable def tvE : TypeInfo := (Tryz.prog.info? 44).get (by kernel_rfl)
theorem tvK (n : Nat) (h2 : 2 ≤ n) : Lib.swapperK n tvE 25 = 9 := by
  have a : tvE.hasPointers = true := by kernel_rfl
  have b : tvE.bytes = 64 := by kernel_rfl
  have c : (n == 0) = false := by simp; omega
  have d : (n == 1) = false := by simp; omega
  simp [Lib.swapperK, a, b, c, d]

theorem encs_len (enc : Wd → List Value) (hk : ∀ s, (enc s).length = 3) (L : List Wd) : (L.flatMap enc).length = L.length * 3 := by
  induction L with
  | nil => rfl
  | cons d r ih => simp only [List.flatMap_cons, List.length_append, List.length_cons, hk] at ih ⊢; omega
theorem flat_trms (enc : Wd → List Value) (hk : ∀ s, (enc s).length = 3) (L : List Wd) (j : Nat) (h : j < L.length * 3) : (L.flatMap enc)[j]? = some (flatK enc 3 L.toArray)[j]! := by
  rw [get_flatK enc 3 L.toArray j (by simpa using h)]
  have hi : j / 3 < L.length := by omega
  have h1 := flat3 enc hk L (j / 3) L[j / 3] (List.getElem?_eq_getElem hi) (j % 3) (Nat.mod_lt _ (by omega))
  have hg : L.toArray[j / 3]! = L[j / 3] := by simp [hi]
  have hm : j % 3 < (enc L[j / 3]).length := by rw [hk]; exact Nat.mod_lt _ (by omega)
  rw [hg]
  rw [show j / 3 * 3 + j % 3 = j by omega] at h1
  rw [h1, List.getElem?_eq_getElem hm]
  simp [hm]
theorem holds_trms (enc : Wd → List Value) (hk : ∀ s, (enc s).length = 3) {w : World} {g : Nat} {cur : Array Value} {e : TypeId} {L : List Wd} (hb : w.heap[g]? = some (.cells cur e (0, 0))) (ht : cur.toList.take (L.length * 3) = L.flatMap enc) : HoldsK enc 3 w g 0 L.toArray := by
  intro j hj
  have hj' : j < L.length * 3 := by simpa using hj
  have h0 := flat_trms enc hk L j hj'
  rw [← ht, List.getElem?_take_of_lt hj', Array.getElem?_toList] at h0
  refine ⟨?_, by simp [World.frozen?, hb]⟩
  rw [Nat.zero_add]
  rw [cell_of_row w g j cur e (0, 0) hb, h0]; rfl
theorem heap_sortedT (enc : Wd → List Value) {w : World} {g n : Nat} {os : Array Obj} {cur : Array Value} {e : TypeId} {fr : Nat × Nat} (d : Array Wd) (hb : w.heap[g]? = some (.cells cur e fr)) :
    (grow (putRowK enc 3 (Sort.ahead w n) g 0 d) os).heap[g]? = some (.cells (putCells id 0 (flatK enc 3 d) cur) e fr) := by
  have hg : g < w.heap.size := (Array.getElem?_eq_some_iff.1 hb).1
  rw [heap_grow_old _ _ (by simpa [putRowK] using hg)]
  simp [putRowK, Sort.putRow, mapBlock, Sort.ahead, Array.getElem?_modify, hb, onCells]
theorem grownBy_sortedT (enc : Wd → List Value) {w : World} {g n : Nat} {os : Array Obj} (d : Array Wd) : w.grownBy (grow (putRowK enc 3 (Sort.ahead w n) g 0 d) os) (some g) := by
  refine ⟨rfl, rfl, rfl, by simp [putRowK], fun k hk hne => ?_⟩
  rw [heap_grow_old _ _ (by simpa [putRowK] using hk)]
  have : g ≠ k := fun e => hne (by rw [e])
  simp [putRowK, Sort.putRow, mapBlock, Sort.ahead, Array.getElem?_modify, this]
theorem take_putCellsT (enc : Wd → List Value) (hk : ∀ s, (enc s).length = 3) (cur : Array Value) (L : List Wd) (h : L.length * 3 ≤ cur.size) : (putCells id 0 (flatK enc 3 L.toArray) cur).toList.take (L.length * 3) = L.flatMap enc := by
  apply List.ext_getElem?
  intro j
  by_cases hj : j < L.length * 3
  · rw [List.getElem?_take_of_lt hj, Array.getElem?_toList, flat_trms enc hk L j hj]
    simp [putCells, hj, show j < cur.size by omega]
  · rw [List.getElem?_take_eq_none (by omega), List.getElem?_eq_none (by rw [encs_len enc hk]; omega)]
theorem ownsRow_sortedT (enc : Wd → List Value) (hk : ∀ s, (enc s).length = 3) {w : World} {base g cap n : Nat} {e : TypeId} {os : Array Obj} {cur : Array Value} {m : Nat} {L : List Wd} (hl : L.length = m) (hbase : base ≤ g) (hb : w.heap[g]? = some (.cells cur e (0, 0)))
    (h1 : m ≤ cap) (h2 : cap ≤ maxLen) (h3 : cur.size = cap * 3) :
    (grow (putRowK enc 3 (Sort.ahead w n) g 0 L.toArray) os).ownsRow base e 3 (.slice (some ⟨g, 0, none⟩) m cap) m (L.flatMap enc) :=
  ⟨by rw [encs_len enc hk, hl], .inr ⟨g, cap, _, rfl, hbase, heap_sortedT enc _ hb, h1, h2, by simp [putCells, h3], by rw [← hl]; exact take_putCellsT enc hk cur L (by omega)⟩⟩

def SortTPost (enc : Wd → List Value) (N : Nat) (v : Value) (L : List Wd) (w : World) (e : Ending) (w' : World) : Prop :=
  e = .returned (.tuple #[]) ∧ ∃ L' : List Wd, L'.Perm L ∧ L'.Pairwise (fun x y => ¬ y < x) ∧ w'.ownsRow N 44 3 v L.length (L'.flatMap enc) ∧ w.grownBy w' v.ownBlock
set_option maxRecDepth 100000 in
set_option maxHeartbeats 2000000 in
theorem sortTerms_q (enc : Wd → List Value) (hk : ∀ s, (enc s).length = 3) (h1c : ∀ s, ∀ v ∈ enc s, v.oneCell' = true) (hst : ∀ s, (enc s)[0]? = some (.string (str0 s))) (N Bs : Nat) (v : Value) (L : List Wd) (w : World) (h : w.ownsRow N 44 3 v L.length (L.flatMap enc)) (hl : L.length ≤ 1048576) (hB : w.cell? ⟨Bs, 2, none⟩ = some v) (hne : v.ownBlock ≠ some Bs) :
    Calls Tryz.prog 11 #[.iface 24 v, .func (.func 12) #[] #[.pointer (some ⟨Bs, 0, none⟩)]] w (SortTPost enc N v L w) := by
  obtain ⟨A, c, rfl, hc, hlc, hA⟩ := own_form h
  by_cases h2 : L.length ≤ 1
  · have tiny : ∀ n : Nat, n ≤ 1 → n = L.length → Calls Tryz.prog 11 #[.iface 24 (.slice A n c), .func (.func 12) #[] #[.pointer (some ⟨Bs, 0, none⟩)]] w fun e w' => e = .returned (.tuple #[]) ∧ ∃ os, w' = grow w os := by
      intro n hn _
      rcases (show n = 0 ∨ n = 1 by omega) with rfl | rfl
      · exact Any.sort_Slice_tiny Tryz.laysGg6 24 44 tvT tvE (by kernel_rfl) (by kernel_rfl) (by kernel_rfl) (by kernel_rfl) 25 (fun _ => by kernel_rfl) A 0 c (by omega) 47 (by rw [show Lib.swapperK 0 tvE 25 = 1 from rfl]; kernel_rfl) _ _ _ w
      · exact Any.sort_Slice_tiny Tryz.laysGg6 24 44 tvT tvE (by kernel_rfl) (by kernel_rfl) (by kernel_rfl) (by kernel_rfl) 25 (fun _ => by kernel_rfl) A 1 c (by omega) 48 (by rw [show Lib.swapperK 1 tvE 25 = 2 from rfl]; kernel_rfl) _ _ _ w
    refine (tiny L.length h2 rfl).mono ?_
    rintro e w' ⟨rfl, os, rfl⟩
    have hb : Below w.heap.size w (grow w os) := Lib.below_grow _ _ (Nat.le_refl _) 0 os
    refine ⟨rfl, L, List.Perm.refl _, ?_, own_keepB2 h hb, grown_below hb⟩
    match L, h2 with
    | [], _ => exact List.Pairwise.nil
    | [a], _ => exact List.pairwise_singleton _ _
  · have h2' : 2 ≤ L.length := by omega
    rcases h.2 with ⟨h3, h0⟩ | ⟨g, cap, cur, hv, hN, hg, hnc, hm, hsz, htake⟩
    · omega
    · cases hv
      have hgl : g < w.heap.size := (Array.getElem?_eq_some_iff.1 hg).1
      have hBl : Bs < w.heap.size := World.block_lt_of_cell? _ _ hB
      have hBg : Bs ≠ g := fun e => hne (by rw [e]; rfl)
      have hH : HoldsK enc 3 w g 0 L.toArray := holds_trms enc hk hg htake
      have hsL : L.toArray.size = L.length := by simp
      have hless : LessReadsK Tryz.prog 12 #[.pointer (some ⟨Bs, 0, none⟩)] enc 3 ltT g 0 L.toArray.size w := by
        intro m os dk hs i j hi hj
        have e : sortWorldK enc 3 w g 0 m dk os = putRowK enc 3 (grow (Sort.ahead w m) os) g 0 dk := by
          unfold sortWorldK; rw [putRowK_grow _ _ (Sort.ahead w m) _ g 0 _ hgl]
        have hHg : HoldsK enc 3 (grow (Sort.ahead w m) os) g 0 L.toArray := holdsK_grow _ _ _ _ g 0 L.toArray hgl (holdsK_ahead _ _ _ _ _ _ _ hH)
        refine newLess_q g 0 L.length c Bs _ (fun t => dk[t]!) ?_ (fun t ht => ?_) i j (by omega) (by omega)
        · rw [e, cell?_putRowK_other _ _ _ g 0 dk _ (by exact hBg), cell?_grow _ _ _ (by exact hBl)]; exact hB
        · rw [e]; have h9 := ((holdsK_putRowK _ _ _ g 0 _ dk hHg hs).cell (i := t) (c := 0) (by omega) (by omega)).1
          have h8 := hst dk[t]!
          have h7 : (enc dk[t]!)[0]! = .string (str0 dk[t]!) := by rw [getElem!_def, h8]
          rw [h7] at h9
          exact h9
      have key : Calls Tryz.prog 11 #[.iface 24 (.slice (some ⟨g, 0, none⟩) L.toArray.size c), .func (.func 12) #[] #[.pointer (some ⟨Bs, 0, none⟩)]] w fun e w' => e = .returned (.tuple #[]) ∧ ∃ d' n os, PermIn 0 L.toArray.size L.toArray d' ∧ SortedIn ltT 0 L.toArray.size d' ∧ w' = grow (putRowK enc 3 (Sort.ahead w n) g 0 d') os := Any.sort_Slice_cells_sorted Tryz.laysGg6 24 44 tvT tvE (by kernel_rfl) (by kernel_rfl) (by kernel_rfl) (by kernel_rfl) 25 (fun _ => by kernel_rfl) enc 3 hk (by kernel_rfl) (fun _ => by kernel_rfl)
        h1c ltT swo_ltT 12 _
        (enters_of Tryz.func12 (by kernel_rfl) rfl) g 0 c L.toArray (by omega) (by omega) 55 (by rw [tvK _ (by omega)]; kernel_rfl) false
        (fun args W => run_callFunc_extern Tryz.func55 (by kernel_rfl) (by kernel_rfl) (by kernel_rfl) (e := Extern.ReflectliteSwapper.swap false) (by kernel_rfl) args W) w hless hH hgl
      rw [hsL] at key
      refine Calls.mono key ?_
      rintro e w' ⟨rfl, d', n, os, hp, hs, rfl⟩
      obtain ⟨hp1, _, hp3⟩ := hp
      have hd : d'.toList.toArray = d' := by simp
      have hl' : d'.toList.length = L.length := by rw [Array.length_toList, hp1, hsL]
      refine ⟨rfl, d'.toList, ?_, ?_, ?_, ?_⟩
      · have e1 : (d'.extract 0 L.length).toList = d'.toList := by rw [show L.length = d'.size by omega]; simp
        have e2 : (L.toArray.extract 0 L.length).toList = L := by rw [← hsL]; simp
        rw [e1, e2] at hp3
        exact hp3
      · rw [List.pairwise_iff_getElem]
        intro i j hi hj hij
        have h9 := hs i j (Nat.zero_le _) hij (by omega)
        simp only [ltT, decide_eq_false_iff_not] at h9
        have e1 : d'[j]! = d'.toList[j] := by simp [show j < d'.size by simpa using hj]
        have e2 : d'[i]! = d'.toList[i] := by simp [show i < d'.size by simpa using hi]
        rw [e1, e2] at h9
        exact h9
      · have := ownsRow_sortedT enc hk (n := n) (os := os) hl' hN hg hnc hm (by simpa using hsz)
        rwa [hd] at this
      · exact grownBy_sortedT enc _

end Go.Proofs.YtmcelgokchhpfaaGreatDoor
