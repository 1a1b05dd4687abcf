/-
  sort.SliceStable over entries of a feed in a row of the call's own.
-/
import Derived.Test.YtnanogcppglapaaGreatDoorFeedOwn
import Derived.Test.YtnanogcppglapaaGreatDoorStab4
import Derived.Test.YtnanogcppglapaaGreatDoorShelf
import Derived.BigQuiet
import Derived.Deep.QuietTactic
import Derived.RegionTactic
import Derived.Shelf.GgSortFunc.Tiny
namespace Go.Proofs.YtnanogcppglapaaGreatDoor
open Go.RowKit Go.Deep
open Go.Sort (SWO PermIn SortedIn HoldsK putRowK flatK get_flatK size_flatK grow putCells mapBlock onCells holdsK_grow holdsK_ahead putRowK_grow cell?_putRowK_other cell?_grow holdsK_putRowK size_grow heap_grow_old)

def LessFPost (x y : EntF) (w : World) (e : Ending) (w' : World) : Prop := e = .returned (.bool (ltF x y)) ∧ ∃ q os, w' = grow (w.drewN q) os
theorem two_alloc (w : World) (X Y : Obj) : ((w.alloc X).alloc Y).drew = grow (w.drewN 1) #[X, Y] := by
  rw [Go.Sort.alloc_eq_grow, Go.Sort.alloc_eq_grow, Go.Sort.grow_grow]; rfl
set_option maxRecDepth 100000 in
set_option maxHeartbeats 4000000 in
theorem feedLess_q (blk off n c Bs : Nat) (w : World) (x y : EntF) (hB : w.cell? ⟨Bs, 0, none⟩ = some (.slice (some ⟨blk, off, none⟩) n c)) (i j : Nat) (hi : i < n) (hj : j < n) (hx : EntFCells w blk (off + i * 4) x) (hy : EntFCells w blk (off + j * 4) y) :
    Calls Tryz.prog 16 #[.int .i64 i, .int .i64 j, .pointer (some ⟨Bs, 0, none⟩)] w (LessFPost x y w) := by
  obtain ⟨k0, k1, k2, k3⟩ := hx
  obtain ⟨l0, l1, l2, l3⟩ := hy
  have HE := Lib.hid (show Op.bytesLess x.addr.toList y.addr.toList = decide (x.addr.data.toList < y.addr.data.toList) by rw [Go.ByteArray.toList_eq, Go.ByteArray.toList_eq, Go.Proofs.bytesLess_eq])
  have hi1 : (i : Int) < (n : Int) := by omega
  have hj1 : (j : Int) < (n : Int) := by omega
  have bb := World.block_lt_of_cell? _ _ k0
  have bB := World.block_lt_of_cell? _ _ hB
  simp only at bb bB
  obtain ⟨xt, xa, xs, xd⟩ := x
  obtain ⟨yt, ya, ys, yd⟩ := y
  simp only at k0 k1 k2 k3 l0 l1 l2 l3 HE
  rcases Int.lt_trichotomy yd xd with hgt | heq | hlt
  · have HV := Lib.hid (show ltF ⟨xt, xa, xs, xd⟩ ⟨yt, ya, ys, yd⟩ = true by simp [ltF, ltH, toH, hgt])
    have t1 : decide (yd < xd) = true := by simpa using hgt
    clear HE
    have HG := Lib.hid hgt; clear hgt
    go_enter Tryz.func16, Tryz.ntmps16
    go_wp2_with fail
    go_region
    all_goals
      (go_wp2_with fail
       go_ret
       exact ⟨by rw [HV.out]; rfl, 1, _, two_alloc _ _ _⟩)
  · subst heq
    have HV := Lib.hid (show ltF ⟨xt, xa, xs, yd⟩ ⟨yt, ya, ys, yd⟩ = Op.bytesLess xa.toList ya.toList by rw [HE.out]; simp [ltF, ltH, toH, hAddr])
    have t1 : decide (yd < yd) = false := by simp
    have t3 : (yd == yd) = true := by simp
    clear HE
    go_enter Tryz.func16, Tryz.ntmps16
    go_wp2_with fail
    go_region
    all_goals
      (go_wp2_with fail
       go_ret
       exact ⟨by rw [HV.out]; rfl, 1, _, two_alloc _ _ _⟩)
  · have HV := Lib.hid (show ltF ⟨xt, xa, xs, xd⟩ ⟨yt, ya, ys, yd⟩ = false by
      cases h9 : ltF ⟨xt, xa, xs, xd⟩ ⟨yt, ya, ys, yd⟩ with
      | false => rfl
      | true =>
        exfalso
        rcases ltF_iff.1 h9 with h8 | ⟨h8, _⟩
        · simp only [toH] at h8; omega
        · simp only [toH] at h8; omega)
    have t1 : decide (yd < xd) = false := by simp; omega
    have t3 : (xd == yd) = false := by simp; omega
    clear HE
    have HG := Lib.hid hlt; clear hlt
    go_enter Tryz.func16, Tryz.ntmps16
    go_wp2_with fail
    go_region
    all_goals
      (go_wp2_with fail
       go_ret
       exact ⟨by rw [HV.out]; rfl, 1, _, two_alloc _ _ _⟩)

noncomputable def fvT : TypeInfo := (Tryz.prog.info? 22).get (by kernel_rfl)
noncomputable def fvE : TypeInfo := (Tryz.prog.info? 48).get (by kernel_rfl)
theorem fvK (n : Nat) (h2 : 2 ≤ n) : Lib.swapperK n fvE 25 = 9 := by
  have a : fvE.hasPointers = true := by kernel_rfl
  have b : fvE.bytes = 56 := by kernel_rfl
  have c : (n == 0) = false := by simp; omega
  have d : (n == 1) = false := by simp; omega
  simp [Lib.swapperK, a, b, c, d]

theorem flat_entsF (L : List EntF) (j : Nat) (h : j < L.length * 4) : (entsFC L)[j]? = some (flatK entFC 4 L.toArray)[j]! := by
  rw [get_flatK entFC 4 L.toArray j (by simpa using h)]
  have hi : j / 4 < L.length := by omega
  have h1 := entsFC_at L (j / 4) L[j / 4] (List.getElem?_eq_getElem hi) (j % 4) (by omega)
  have hg : L.toArray[j / 4]! = L[j / 4] := by simp [hi]
  rw [hg]
  rw [show j / 4 * 4 + j % 4 = j by omega] at h1
  rw [h1]
  rcases (show j % 4 = 0 ∨ j % 4 = 1 ∨ j % 4 = 2 ∨ j % 4 = 3 by omega) with hm | hm | hm | hm <;> rw [hm] <;> rfl
theorem holds_entsF {w : World} {g : Nat} {cur : Array Value} {e : TypeId} {L : List EntF} (hb : w.heap[g]? = some (.cells cur e (0, 0))) (ht : cur.toList.take (L.length * 4) = entsFC L) : HoldsK entFC 4 w g 0 L.toArray := by
  intro j hj
  have hj' : j < L.length * 4 := by simpa using hj
  have h0 := flat_entsF L j hj'
  rw [← ht, List.getElem?_take_of_lt hj', Array.getElem?_toList] at h0
  refine ⟨?_, by simp [World.frozen?, hb]⟩
  rw [Nat.zero_add]
  rw [cell_of_row w g j cur e (0, 0) hb, h0]; rfl
theorem heap_sortedF {w : World} {g n : Nat} {os : Array Obj} {cur : Array Value} {e : TypeId} {fr : Nat × Nat} (d : Array EntF) (hb : w.heap[g]? = some (.cells cur e fr)) :
    (grow (putRowK entFC 4 (Sort.ahead w n) g 0 d) os).heap[g]? = some (.cells (putCells id 0 (flatK entFC 4 d) cur) e fr) := by
  have hg : g < w.heap.size := (Array.getElem?_eq_some_iff.1 hb).1
  rw [heap_grow_old _ _ (by simpa [putRowK] using hg)]
  simp [putRowK, Sort.putRow, mapBlock, Sort.ahead, Array.getElem?_modify, hb, onCells]
theorem grownBy_sortedF {w : World} {g n : Nat} {os : Array Obj} (d : Array EntF) : w.grownBy (grow (putRowK entFC 4 (Sort.ahead w n) g 0 d) os) (some g) := by
  refine ⟨rfl, rfl, rfl, by simp [putRowK], fun k hk hne => ?_⟩
  rw [heap_grow_old _ _ (by simpa [putRowK] using hk)]
  have : g ≠ k := fun e => hne (by rw [e])
  simp [putRowK, Sort.putRow, mapBlock, Sort.ahead, Array.getElem?_modify, this]
theorem take_putCellsF (cur : Array Value) (L : List EntF) (h : L.length * 4 ≤ cur.size) : (putCells id 0 (flatK entFC 4 L.toArray) cur).toList.take (L.length * 4) = entsFC L := by
  apply List.ext_getElem?
  intro j
  by_cases hj : j < L.length * 4
  · rw [List.getElem?_take_of_lt hj, Array.getElem?_toList, flat_entsF L j hj]
    simp [putCells, hj, show j < cur.size by omega]
  · rw [List.getElem?_take_eq_none (by omega), List.getElem?_eq_none (by rw [entsFC_len]; omega)]
theorem ownsRow_sortedF {w : World} {base g cap n : Nat} {e : TypeId} {os : Array Obj} {cur : Array Value} {m : Nat} {L : List EntF} (hl : L.length = m) (hbase : base ≤ g) (hb : w.heap[g]? = some (.cells cur e (0, 0)))
    (h1 : m ≤ cap) (h2 : cap ≤ maxLen) (h3 : cur.size = cap * 4) :
    (grow (putRowK entFC 4 (Sort.ahead w n) g 0 L.toArray) os).ownsRow base e 4 (.slice (some ⟨g, 0, none⟩) m cap) m (entsFC L) :=
  ⟨by rw [entsFC_len, hl], .inr ⟨g, cap, _, rfl, hbase, heap_sortedF _ hb, h1, h2, by simp [putCells, h3], by rw [← hl]; exact take_putCellsF cur L (by omega)⟩⟩

def SortFPost (N : Nat) (v : Value) (L : List EntF) (w : World) (e : Ending) (w' : World) : Prop :=
  e = .returned (.tuple #[]) ∧ ∃ L' : List EntF, L'.Perm L ∧ L'.Pairwise (fun x y => ¬ FeedR y x) ∧ w'.ownsRow N 48 4 v L.length (entsFC L') ∧ w.grownBy w' v.ownBlock
set_option maxRecDepth 100000 in
set_option maxHeartbeats 2000000 in
theorem sortEnts_q (N Bs : Nat) (v : Value) (L : List EntF) (w : World) (h : w.ownsRow N 48 4 v L.length (entsFC L)) (hl : L.length ≤ 1048576) (hB : w.cell? ⟨Bs, 0, none⟩ = some v) (hne : v.ownBlock ≠ some Bs) :
    Calls Tryz.prog 15 #[.iface 22 v, .func (.func 16) #[] #[.pointer (some ⟨Bs, 0, none⟩)]] w (SortFPost N v L w) := by
  obtain ⟨A, c, rfl, hc, hlc, hA⟩ := own_form h
  by_cases h2 : L.length ≤ 1
  · have tiny : ∀ n : Nat, n ≤ 1 → n = L.length → Calls Tryz.prog 15 #[.iface 22 (.slice A n c), .func (.func 16) #[] #[.pointer (some ⟨Bs, 0, none⟩)]] w fun e w' => e = .returned (.tuple #[]) ∧ ∃ os, w' = grow w os := by
      intro n hn _
      rcases (show n = 0 ∨ n = 1 by omega) with rfl | rfl
      · exact Any.sort_SliceStable_tiny Tryz.laysGt8 22 48 fvT fvE (by kernel_rfl) (by kernel_rfl) (by kernel_rfl) (by kernel_rfl) 25 (fun _ => by kernel_rfl) A 0 c (by omega) 66 (by rw [show Lib.swapperK 0 fvE 25 = 1 from rfl]; kernel_rfl) _ _ _ w
      · exact Any.sort_SliceStable_tiny Tryz.laysGt8 22 48 fvT fvE (by kernel_rfl) (by kernel_rfl) (by kernel_rfl) (by kernel_rfl) 25 (fun _ => by kernel_rfl) A 1 c (by omega) 67 (by rw [show Lib.swapperK 1 fvE 25 = 2 from rfl]; kernel_rfl) _ _ _ w
    refine (tiny L.length h2 rfl).mono ?_
    rintro e w' ⟨rfl, os, rfl⟩
    have hb : Below w.heap.size w (grow w os) := Lib.below_grow _ _ (Nat.le_refl _) 0 os
    refine ⟨rfl, L, List.Perm.refl _, ?_, own_keepB2 h hb, grown_below hb⟩
    match L, h2 with
    | [], _ => exact List.Pairwise.nil
    | [a], _ => exact List.pairwise_singleton _ _
  · have h2' : 2 ≤ L.length := by omega
    rcases h.2 with ⟨h3, h0⟩ | ⟨g, cap, cur, hv, hN, hg, hnc, hm, hsz, htake⟩
    · omega
    · cases hv
      have hgl : g < w.heap.size := (Array.getElem?_eq_some_iff.1 hg).1
      have hBl : Bs < w.heap.size := World.block_lt_of_cell? _ _ hB
      have hBg : Bs ≠ g := fun e => hne (by rw [e]; rfl)
      have hH : HoldsK entFC 4 w g 0 L.toArray := holds_entsF hg htake
      have hsL : L.toArray.size = L.length := by simp
      have hless : LessG Tryz.prog 16 #[.pointer (some ⟨Bs, 0, none⟩)] entFC 4 ltF g 0 L.toArray.size w := by
        intro dk wr hs hz i j hi hj
        obtain ⟨m, os, rfl⟩ := hs
        have e : sortWorldK entFC 4 w g 0 m dk os = putRowK entFC 4 (grow (Sort.ahead w m) os) g 0 dk := by
          unfold sortWorldK; rw [putRowK_grow _ _ (Sort.ahead w m) _ g 0 _ hgl]
        have hHg : HoldsK entFC 4 (grow (Sort.ahead w m) os) g 0 L.toArray := holdsK_grow _ _ _ _ g 0 L.toArray hgl (holdsK_ahead _ _ _ _ _ _ _ hH)
        have cells : ∀ t, t < L.length → EntFCells (sortWorldK entFC 4 w g 0 m dk os) g (0 + t * 4) dk[t]! := fun t ht => by
          rw [e]
          exact ⟨((holdsK_putRowK _ _ _ g 0 _ dk hHg hz).cell (i := t) (c := 0) (by omega) (by omega)).1, ((holdsK_putRowK _ _ _ g 0 _ dk hHg hz).cell (i := t) (c := 1) (by omega) (by omega)).1, ((holdsK_putRowK _ _ _ g 0 _ dk hHg hz).cell (i := t) (c := 2) (by omega) (by omega)).1, ((holdsK_putRowK _ _ _ g 0 _ dk hHg hz).cell (i := t) (c := 3) (by omega) (by omega)).1⟩
        refine feedLess_q g 0 L.length c Bs _ dk[i]! dk[j]! ?_ i j (by omega) (by omega) (cells i (by omega)) (cells j (by omega))
        rw [e, cell?_putRowK_other _ _ _ g 0 dk _ (by exact hBg), cell?_grow _ _ _ (by exact hBl)]; exact hB
      have key : Calls Tryz.prog 15 #[.iface 22 (.slice (some ⟨g, 0, none⟩) L.toArray.size c), .func (.func 16) #[] #[.pointer (some ⟨Bs, 0, none⟩)]] w fun e w' => e = .returned (.tuple #[]) ∧ ∃ d' n os, PermIn 0 L.toArray.size L.toArray d' ∧ SortedIn ltF 0 L.toArray.size d' ∧ w' = grow (putRowK entFC 4 (Sort.ahead w n) g 0 d') os := sliceStable_sorted 22 48 fvT fvE (by kernel_rfl) (by kernel_rfl) (by kernel_rfl) (by kernel_rfl) 25 (fun _ => by kernel_rfl) entFC 4 (fun _ => rfl) (by kernel_rfl) (fun _ => by kernel_rfl)
        entFC_one ltF swo_ltF 16 _
        (enters_of Tryz.func16 (by kernel_rfl) rfl) g 0 c L.toArray (by omega) (by omega) 74 (by rw [fvK _ (by omega)]; kernel_rfl) false
        (fun args W => run_callFunc_extern Tryz.func74 (by kernel_rfl) (by kernel_rfl) (by kernel_rfl) (e := Extern.ReflectliteSwapper.swap false) (by kernel_rfl) args W) w hless hH hgl
      rw [hsL] at key
      refine Calls.mono key ?_
      rintro e w' ⟨rfl, d', n, os, hp, hs, rfl⟩
      obtain ⟨hp1, _, hp3⟩ := hp
      have hd : d'.toList.toArray = d' := by simp
      have hl' : d'.toList.length = L.length := by rw [Array.length_toList, hp1, hsL]
      refine ⟨rfl, d'.toList, ?_, ?_, ?_, ?_⟩
      · have e1 : (d'.extract 0 L.length).toList = d'.toList := by rw [show L.length = d'.size by omega]; simp
        have e2 : (L.toArray.extract 0 L.length).toList = L := by rw [← hsL]; simp
        rw [e1, e2] at hp3
        exact hp3
      · rw [List.pairwise_iff_getElem]
        intro i j hi hj hij
        have h9 := hs i j (Nat.zero_le _) hij (by omega)
        have h9 : ¬ FeedR _ _ := fun h10 => by rw [ltF_iff.2 h10] at h9; cases h9
        have e1 : d'[j]! = d'.toList[j] := by simp [show j < d'.size by simpa using hj]
        have e2 : d'[i]! = d'.toList[i] := by simp [show i < d'.size by simpa using hi]
        rw [e1, e2] at h9
        exact h9
      · have := ownsRow_sortedF (n := n) (os := os) hl' hN hg hnc hm (by simpa using hsz)
        rwa [hd] at this
      · exact grownBy_sortedF _

end Go.Proofs.YtnanogcppglapaaGreatDoor
