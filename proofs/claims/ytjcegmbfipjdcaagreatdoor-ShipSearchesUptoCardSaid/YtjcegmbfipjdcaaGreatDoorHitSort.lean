/-
  sort.SliceStable over hits in a row of the call's own.
-/
import Derived.Test.YtjcegmbfipjdcaaGreatDoorHitOwn
import Derived.Test.YtjcegmbfipjdcaaGreatDoorStab4
import Derived.Test.YtjcegmbfipjdcaaGreatDoorShelf
import Derived.BigQuiet
import Derived.Deep.QuietTactic
import Derived.RegionTactic
import Derived.Shelf.GgSortFunc.Tiny
namespace Go.Proofs.YtjcegmbfipjdcaaGreatDoor
open Go.RowKit Go.Deep
open Go.Sort (SWO PermIn SortedIn HoldsK putRowK flatK get_flatK size_flatK grow putCells mapBlock onCells holdsK_grow holdsK_ahead putRowK_grow cell?_putRowK_other cell?_grow holdsK_putRowK size_grow heap_grow_old)

set_option maxRecDepth 100000 in
set_option maxHeartbeats 4000000 in
theorem searchLess_q (blk off n c Bs : Nat) (w : World) (pf : Nat → HitV) (hB : w.cell? ⟨Bs, 0, none⟩ = some (.slice (some ⟨blk, off, none⟩) n c)) (hc : ∀ t, t < n → w.cell? ⟨blk, off + t * 2, none⟩ = some (.string (pf t).addr)) (hs : ∀ t, t < n → w.cell? ⟨blk, off + t * 2 + 1, none⟩ = some (.int .i64 (pf t).score)) (i j : Nat) (hi : i < n) (hj : j < n) :
    Calls Tryz.prog 31 #[.int .i64 i, .int .i64 j, .pointer (some ⟨Bs, 0, none⟩)] w fun e w' => e = .returned (.bool (ltH (pf i) (pf j))) ∧ ∃ q, w' = w.drewN q := by
  have k0 := hc i hi
  have k1 := hc j hj
  have l0 := hs i hi
  have l1 := hs j hj
  obtain ⟨x, hx⟩ : ∃ x, pf i = x := ⟨_, rfl⟩
  obtain ⟨y, hy⟩ : ∃ y, pf j = y := ⟨_, rfl⟩
  rw [hx] at k0 l0 ⊢
  rw [hy] at k1 l1 ⊢
  have HE := Lib.hid (show Op.bytesLess x.addr.toList y.addr.toList = decide (x.addr.data.toList < y.addr.data.toList) by rw [Go.ByteArray.toList_eq, Go.ByteArray.toList_eq, Go.Proofs.bytesLess_eq])
  have hi1 : (i : Int) < (n : Int) := by omega
  have hj1 : (j : Int) < (n : Int) := by omega
  clear hc hs hx hy
  rcases Int.lt_trichotomy y.score x.score with hgt | heq | hlt
  · have t1 : decide (y.score < x.score) = true := by simpa using hgt
    have t2 : decide (x.score > y.score) = true := by simpa using hgt
    have HV := Lib.hid (show ltH x y = true by simp [ltH, hgt])
    clear HE
    have HG := Lib.hid hgt; clear hgt
    go_enter Tryz.func31, Tryz.ntmps31
    go_wp2_with fail
    go_quiet (fail)
    go_wp2_with fail
    go_ret
    exact ⟨by rw [HV.out]; rfl, _, rfl⟩
  · have t1 : decide (y.score < x.score) = false := by simp [heq]
    have t2 : decide (x.score > y.score) = false := by simp [heq]
    have t3 : (x.score == y.score) = true := by simp [heq]
    have t4 : decide (x.score = y.score) = true := by simp [heq]
    have HV := Lib.hid (show ltH x y = decide (x.addr.data.toList < y.addr.data.toList) by simp [ltH, hAddr, heq])
    have HG := Lib.hid heq; clear heq
    go_enter Tryz.func31, Tryz.ntmps31
    go_wp2_with fail
    go_quiet (fail)
    go_wp2_with fail
    go_ret
    exact ⟨by rw [HV.out, ← HE.out]; rfl, _, rfl⟩
  · have t1 : decide (y.score < x.score) = false := by simp; omega
    have t2 : decide (x.score > y.score) = false := by simp; omega
    have t3 : (x.score == y.score) = false := by simp; omega
    have t4 : decide (x.score = y.score) = false := by simp; omega
    have HV := Lib.hid (show ltH x y = false by simp only [ltH, t2, t4, Bool.false_and, Bool.or_self])
    clear HE
    have HG := Lib.hid hlt; clear hlt
    go_enter Tryz.func31, Tryz.ntmps31
    go_wp2_with fail
    go_quiet (fail)
    go_wp2_with fail
    go_ret
    exact ⟨by rw [HV.out]; rfl, _, rfl⟩

noncomputable def hvT : TypeInfo := (Tryz.prog.info? 34).get (by kernel_rfl)
noncomputable def hvE : TypeInfo := (Tryz.prog.info? 40).get (by kernel_rfl)
theorem hvK (n : Nat) (h2 : 2 ≤ n) : Lib.swapperK n hvE 25 = 9 := by
  have a : hvE.hasPointers = true := by kernel_rfl
  have b : hvE.bytes = 24 := by kernel_rfl
  have c : (n == 0) = false := by simp; omega
  have d : (n == 1) = false := by simp; omega
  simp [Lib.swapperK, a, b, c, d]

theorem flat_hits (L : List HitV) (j : Nat) (h : j < L.length * 2) : (hitsC L)[j]? = some (flatK hitC 2 L.toArray)[j]! := by
  rw [get_flatK hitC 2 L.toArray j (by simpa using h)]
  have hi : j / 2 < L.length := by omega
  obtain ⟨h1, h2⟩ := hitsC_at L (j / 2) L[j / 2] (List.getElem?_eq_getElem hi)
  have hg : L.toArray[j / 2]! = L[j / 2] := by simp [hi]
  rw [hg]
  rcases Nat.mod_two_eq_zero_or_one j with hm | hm
  · rw [show j / 2 * 2 = j by omega] at h1
    rw [hm, h1]; rfl
  · rw [show j / 2 * 2 + 1 = j by omega] at h2
    rw [hm, h2]; rfl
theorem holds_hits {w : World} {g : Nat} {cur : Array Value} {e : TypeId} {L : List HitV} (hb : w.heap[g]? = some (.cells cur e (0, 0))) (ht : cur.toList.take (L.length * 2) = hitsC L) : HoldsK hitC 2 w g 0 L.toArray := by
  intro j hj
  have hj' : j < L.length * 2 := by simpa using hj
  have h0 := flat_hits L j hj'
  rw [← ht, List.getElem?_take_of_lt hj', Array.getElem?_toList] at h0
  refine ⟨?_, by simp [World.frozen?, hb]⟩
  rw [Nat.zero_add]
  rw [cell_of_row w g j cur e (0, 0) hb, h0]; rfl
theorem heap_sortedH {w : World} {g n : Nat} {os : Array Obj} {cur : Array Value} {e : TypeId} {fr : Nat × Nat} (d : Array HitV) (hb : w.heap[g]? = some (.cells cur e fr)) :
    (grow (putRowK hitC 2 (Sort.ahead w n) g 0 d) os).heap[g]? = some (.cells (putCells id 0 (flatK hitC 2 d) cur) e fr) := by
  have hg : g < w.heap.size := (Array.getElem?_eq_some_iff.1 hb).1
  rw [heap_grow_old _ _ (by simpa [putRowK] using hg)]
  simp [putRowK, Sort.putRow, mapBlock, Sort.ahead, Array.getElem?_modify, hb, onCells]
theorem grownBy_sortedH {w : World} {g n : Nat} {os : Array Obj} (d : Array HitV) : w.grownBy (grow (putRowK hitC 2 (Sort.ahead w n) g 0 d) os) (some g) := by
  refine ⟨rfl, rfl, rfl, by simp [putRowK], fun k hk hne => ?_⟩
  rw [heap_grow_old _ _ (by simpa [putRowK] using hk)]
  have : g ≠ k := fun e => hne (by rw [e])
  simp [putRowK, Sort.putRow, mapBlock, Sort.ahead, Array.getElem?_modify, this]
theorem take_putCellsH (cur : Array Value) (L : List HitV) (h : L.length * 2 ≤ cur.size) : (putCells id 0 (flatK hitC 2 L.toArray) cur).toList.take (L.length * 2) = hitsC L := by
  apply List.ext_getElem?
  intro j
  by_cases hj : j < L.length * 2
  · rw [List.getElem?_take_of_lt hj, Array.getElem?_toList, flat_hits L j hj]
    simp [putCells, hj, show j < cur.size by omega]
  · rw [List.getElem?_take_eq_none (by omega), List.getElem?_eq_none (by rw [hitsC_len]; omega)]
theorem ownsRow_sortedH {w : World} {base g cap n : Nat} {e : TypeId} {os : Array Obj} {cur : Array Value} {m : Nat} {L : List HitV} (hl : L.length = m) (hbase : base ≤ g) (hb : w.heap[g]? = some (.cells cur e (0, 0)))
    (h1 : m ≤ cap) (h2 : cap ≤ maxLen) (h3 : cur.size = cap * 2) :
    (grow (putRowK hitC 2 (Sort.ahead w n) g 0 L.toArray) os).ownsRow base e 2 (.slice (some ⟨g, 0, none⟩) m cap) m (hitsC L) :=
  ⟨by rw [hitsC_len, hl], .inr ⟨g, cap, _, rfl, hbase, heap_sortedH _ hb, h1, h2, by simp [putCells, h3], by rw [← hl]; exact take_putCellsH cur L (by omega)⟩⟩

def SortHPost (N : Nat) (v : Value) (L : List HitV) (w : World) (e : Ending) (w' : World) : Prop :=
  e = .returned (.tuple #[]) ∧ ∃ L' : List HitV, L'.Perm L ∧ L'.Pairwise (fun x y => ¬ HitR y x) ∧ w'.ownsRow N 40 2 v L.length (hitsC L') ∧ w.grownBy w' v.ownBlock
set_option maxRecDepth 100000 in
set_option maxHeartbeats 2000000 in
theorem sortHits_q (N Bs : Nat) (v : Value) (L : List HitV) (w : World) (h : w.ownsRow N 40 2 v L.length (hitsC L)) (hl : L.length ≤ 1048576) (hB : w.cell? ⟨Bs, 0, none⟩ = some v) (hne : v.ownBlock ≠ some Bs) :
    Calls Tryz.prog 15 #[.iface 34 v, .func (.func 31) #[] #[.pointer (some ⟨Bs, 0, none⟩)]] w (SortHPost N v L w) := by
  obtain ⟨A, c, rfl, hc, hlc, hA⟩ := own_form h
  by_cases h2 : L.length ≤ 1
  · have tiny : ∀ n : Nat, n ≤ 1 → n = L.length → Calls Tryz.prog 15 #[.iface 34 (.slice A n c), .func (.func 31) #[] #[.pointer (some ⟨Bs, 0, none⟩)]] w fun e w' => e = .returned (.tuple #[]) ∧ ∃ os, w' = grow w os := by
      intro n hn _
      rcases (show n = 0 ∨ n = 1 by omega) with rfl | rfl
      · exact Any.sort_SliceStable_tiny Tryz.laysGt8 34 40 hvT hvE (by kernel_rfl) (by kernel_rfl) (by kernel_rfl) (by kernel_rfl) 25 (fun _ => by kernel_rfl) A 0 c (by omega) 66 (by rw [show Lib.swapperK 0 hvE 25 = 1 from rfl]; kernel_rfl) _ _ _ w
      · exact Any.sort_SliceStable_tiny Tryz.laysGt8 34 40 hvT hvE (by kernel_rfl) (by kernel_rfl) (by kernel_rfl) (by kernel_rfl) 25 (fun _ => by kernel_rfl) A 1 c (by omega) 67 (by rw [show Lib.swapperK 1 hvE 25 = 2 from rfl]; kernel_rfl) _ _ _ w
    refine (tiny L.length h2 rfl).mono ?_
    rintro e w' ⟨rfl, os, rfl⟩
    have hb : Below w.heap.size w (grow w os) := Lib.below_grow _ _ (Nat.le_refl _) 0 os
    refine ⟨rfl, L, List.Perm.refl _, ?_, own_keepB2 h hb, grown_below hb⟩
    match L, h2 with
    | [], _ => exact List.Pairwise.nil
    | [a], _ => exact List.pairwise_singleton _ _
  · have h2' : 2 ≤ L.length := by omega
    rcases h.2 with ⟨h3, h0⟩ | ⟨g, cap, cur, hv, hN, hg, hnc, hm, hsz, htake⟩
    · omega
    · cases hv
      have hgl : g < w.heap.size := (Array.getElem?_eq_some_iff.1 hg).1
      have hBl : Bs < w.heap.size := World.block_lt_of_cell? _ _ hB
      have hBg : Bs ≠ g := fun e => hne (by rw [e]; rfl)
      have hH : HoldsK hitC 2 w g 0 L.toArray := holds_hits hg htake
      have hsL : L.toArray.size = L.length := by simp
      have hless : LessReadsK Tryz.prog 31 #[.pointer (some ⟨Bs, 0, none⟩)] hitC 2 ltH g 0 L.toArray.size w := by
        intro m os dk hs i j hi hj
        have e : sortWorldK hitC 2 w g 0 m dk os = putRowK hitC 2 (grow (Sort.ahead w m) os) g 0 dk := by
          unfold sortWorldK; rw [putRowK_grow _ _ (Sort.ahead w m) _ g 0 _ hgl]
        have hHg : HoldsK hitC 2 (grow (Sort.ahead w m) os) g 0 L.toArray := holdsK_grow _ _ _ _ g 0 L.toArray hgl (holdsK_ahead _ _ _ _ _ _ _ hH)
        refine searchLess_q g 0 L.length c Bs _ (fun t => dk[t]!) ?_ (fun t ht => ?_) (fun t ht => ?_) i j (by omega) (by omega)
        · rw [e, cell?_putRowK_other _ _ _ g 0 dk _ (by exact hBg), cell?_grow _ _ _ (by exact hBl)]; exact hB
        · rw [e]; exact ((holdsK_putRowK _ _ _ g 0 _ dk hHg hs).cell (i := t) (c := 0) (by omega) (by omega)).1
        · rw [e]; exact ((holdsK_putRowK _ _ _ g 0 _ dk hHg hs).cell (i := t) (c := 1) (by omega) (by omega)).1
      have key : Calls Tryz.prog 15 #[.iface 34 (.slice (some ⟨g, 0, none⟩) L.toArray.size c), .func (.func 31) #[] #[.pointer (some ⟨Bs, 0, none⟩)]] w fun e w' => e = .returned (.tuple #[]) ∧ ∃ d' n os, PermIn 0 L.toArray.size L.toArray d' ∧ SortedIn ltH 0 L.toArray.size d' ∧ w' = grow (putRowK hitC 2 (Sort.ahead w n) g 0 d') os := sliceStable_sorted 34 40 hvT hvE (by kernel_rfl) (by kernel_rfl) (by kernel_rfl) (by kernel_rfl) 25 (fun _ => by kernel_rfl) hitC 2 (fun _ => rfl) (by kernel_rfl) (fun _ => by kernel_rfl)
        (fun x v hv => by simp [hitC] at hv; rcases hv with rfl | rfl <;> rfl) ltH swo_ltH 31 _
        (enters_of Tryz.func31 (by kernel_rfl) rfl) g 0 c L.toArray (by omega) (by omega) 74 (by rw [hvK _ (by omega)]; kernel_rfl) false
        (fun args W => run_callFunc_extern Tryz.func74 (by kernel_rfl) (by kernel_rfl) (by kernel_rfl) (e := Extern.ReflectliteSwapper.swap false) (by kernel_rfl) args W) w hless hH hgl
      rw [hsL] at key
      refine Calls.mono key ?_
      rintro e w' ⟨rfl, d', n, os, hp, hs, rfl⟩
      obtain ⟨hp1, _, hp3⟩ := hp
      have hd : d'.toList.toArray = d' := by simp
      have hl' : d'.toList.length = L.length := by rw [Array.length_toList, hp1, hsL]
      refine ⟨rfl, d'.toList, ?_, ?_, ?_, ?_⟩
      · have e1 : (d'.extract 0 L.length).toList = d'.toList := by rw [show L.length = d'.size by omega]; simp
        have e2 : (L.toArray.extract 0 L.length).toList = L := by rw [← hsL]; simp
        rw [e1, e2] at hp3
        exact hp3
      · rw [List.pairwise_iff_getElem]
        intro i j hi hj hij
        have h9 := hs i j (Nat.zero_le _) hij (by omega)
        have h9 : ¬ HitR _ _ := fun h10 => by rw [ltH_iff.2 h10] at h9; cases h9
        have e1 : d'[j]! = d'.toList[j] := by simp [show j < d'.size by simpa using hj]
        have e2 : d'[i]! = d'.toList[i] := by simp [show i < d'.size by simpa using hi]
        rw [e1, e2] at h9
        exact h9
      · have := ownsRow_sortedH (n := n) (os := os) hl' hN hg hnc hm (by simpa using hsz)
        rwa [hd] at this
      · exact grownBy_sortedH _

end Go.Proofs.YtjcegmbfipjdcaaGreatDoor
