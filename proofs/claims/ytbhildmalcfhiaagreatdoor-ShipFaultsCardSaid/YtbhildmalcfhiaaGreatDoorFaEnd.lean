/-
  Faults: what a page's faults are, sorted; of all pages.
-/
import Derived.Test.YtbhildmalcfhiaaGreatDoorFaNestP
import Derived.Test.YtbhildmalcfhiaaGreatDoorStab4
import Derived.BigQuiet
import Derived.Deep.QuietTactic
import Derived.RegionTactic
import Derived.Shelf.GgSortFunc.Tiny
namespace Go.Proofs.YtbhildmalcfhiaaGreatDoor
open Go.RowKit Go.Deep
open Go.Sort (SWO PermIn SortedIn HoldsK putRowK flatK get_flatK size_flatK grow putCells mapBlock onCells holdsK_grow holdsK_ahead putRowK_grow cell?_putRowK_other cell?_grow holdsK_putRowK size_grow heap_grow_old)

theorem faCells_len (pa : ByteArray) (L : List FaultR) : (faCells pa L).length = L.length * 3 := by
  induction L with
  | nil => rfl
  | cons d r ih => simp only [faCells, List.flatMap_cons, List.length_append, List.length_cons, faRow, List.length_nil] at ih ⊢; omega
theorem faCells_at (pa : ByteArray) : ∀ (l : List FaultR) (i : Nat) (a : FaultR), l[i]? = some a → ∀ c, c < 3 → (faCells pa l)[i * 3 + c]? = (faRow pa a)[c]? := fun l i a h c hc => flatN 3 (faRow pa) (fun _ => rfl) l i a h c hc
instance : Inhabited FaultR := ⟨⟨0, 0⟩⟩
theorem faLt_iff {a b : FaultR} : faLt a b = true ↔ (a.at_ < b.at_ ∨ (a.at_ = b.at_ ∧ a.kind < b.kind)) := by
  unfold faLt
  simp only [Bool.or_eq_true, Bool.and_eq_true, decide_eq_true_eq]
theorem faLt_no {a b : FaultR} : faLt a b = false ↔ ¬ (a.at_ < b.at_ ∨ (a.at_ = b.at_ ∧ a.kind < b.kind)) := by
  rw [← faLt_iff]; simp
theorem swo_faLt : SWO faLt := by
  refine ⟨fun a => ?_, fun a b c h1 h2 => ?_, fun a b c h1 h2 => ?_⟩
  · rw [faLt_no]; omega
  · rw [faLt_iff] at *; omega
  · rw [faLt_no] at *; omega
structure FaC (w : World) (b o : Nat) (pa : ByteArray) (x : FaultR) : Prop where
  c0 : w.cell? ⟨b, o, none⟩ = some (.string pa)
  c1 : w.cell? ⟨b, o + 1, none⟩ = some (.int .i64 (x.at_ : Int))
  c2 : w.cell? ⟨b, o + 2, none⟩ = some (.int .i64 x.kind)
def LessFaPost (x y : FaultR) (w : World) (e : Ending) (w' : World) : Prop := e = .returned (.bool (faLt x y)) ∧ ∃ q os, w' = grow (w.drewN q) os
theorem two_allocFa (w : World) (X Y : Obj) : ((w.alloc X).alloc Y).drew = grow (w.drewN 1) #[X, Y] := by
  rw [Go.Sort.alloc_eq_grow, Go.Sort.alloc_eq_grow, Go.Sort.grow_grow]; rfl
set_option maxRecDepth 100000 in
set_option maxHeartbeats 8000000 in
theorem faLess_q (blk n c Bs jb : Nat) (pa : ByteArray) (w : World) (x y : FaultR) (hB : w.cell? ⟨Bs, 0, none⟩ = some (.pointer (some ⟨jb, 0, none⟩))) (hJ : w.cell? ⟨jb, 2, none⟩ = some (.slice (some ⟨blk, 0, none⟩) n c)) (i j : Nat) (hi : i < n) (hj : j < n) (hx : FaC w blk (i * 3) pa x) (hy : FaC w blk (j * 3) pa y) :
    Calls Tryz.prog 34 #[.int .i64 i, .int .i64 j, .pointer (some ⟨Bs, 0, none⟩)] w (LessFaPost x y w) := by
  obtain ⟨k0, k1, k2⟩ := hx
  obtain ⟨l0, l1, l2⟩ := hy
  have hi1 : (i : Int) < (n : Int) := by omega
  have hj1 : (j : Int) < (n : Int) := by omega
  have bb := World.block_lt_of_cell? _ _ k0
  have bB := World.block_lt_of_cell? _ _ hB
  have bJ := World.block_lt_of_cell? _ _ hJ
  simp only at bb bB bJ
  obtain ⟨xa, xk⟩ := x
  obtain ⟨ya, yk⟩ := y
  simp only at k0 k1 k2 l0 l1 l2
  by_cases h1 : xa < ya
  · have HV := Lib.hid (show faLt ⟨xa, xk⟩ ⟨ya, yk⟩ = true by simp [faLt, h1])
    have t1 : (xa : Int) < (ya : Int) := by omega
    clear h1
    go_enter Tryz.func34, Tryz.ntmps34
    go_wp2_with fail
    go_region
    all_goals
      (go_wp2_with fail
       go_ret
       exact ⟨by rw [HV.out]; rfl, 1, _, two_allocFa _ _ _⟩)
  by_cases h2 : xa = ya
  · subst h2
    have t1 : decide ((xa : Int) < (xa : Int)) = false := by simp
    have t2 : ((xa : Int) == (xa : Int)) = true := by simp
    have HV := Lib.hid (show faLt ⟨xa, xk⟩ ⟨xa, yk⟩ = decide (xk < yk) by simp [faLt])
    clear h1
    go_enter Tryz.func34, Tryz.ntmps34
    go_wp2_with fail
    go_region
    all_goals
      (go_wp2_with fail
       go_ret
       exact ⟨by rw [HV.out]; rfl, 1, _, two_allocFa _ _ _⟩)
  have HV := Lib.hid (show faLt ⟨xa, xk⟩ ⟨ya, yk⟩ = false by rw [faLt_no]; simp only; omega)
  have t1 : decide ((xa : Int) < (ya : Int)) = false := by simp; omega
  have t2 : ((xa : Int) == (ya : Int)) = false := beq_eq_false_iff_ne.2 (by omega)
  have t3 : decide (xa < ya) = false := by simp; omega
  have t4 : (xa == ya) = false := beq_eq_false_iff_ne.2 h2
  go_enter Tryz.func34, Tryz.ntmps34
  go_wp2_with fail
  go_region
  all_goals
    (go_wp2_with fail
     go_ret
     exact ⟨by rw [HV.out]; rfl, 1, _, two_allocFa _ _ _⟩)

section
variable {pa : ByteArray}
noncomputable def faT : TypeInfo := (Tryz.prog.info? 36).get (by kernel_rfl)
noncomputable def faE : TypeInfo := (Tryz.prog.info? 41).get (by kernel_rfl)
theorem faK (n : Nat) (h2 : 2 ≤ n) : Lib.swapperK n faE 25 = 9 := by
  have a : faE.hasPointers = true := by kernel_rfl
  have b : faE.bytes = 32 := by kernel_rfl
  have c : (n == 0) = false := by simp; omega
  have d : (n == 1) = false := by simp; omega
  simp [Lib.swapperK, a, b, c, d]

theorem flat_faults (L : List FaultR) (j : Nat) (h : j < L.length * 3) : (faCells pa L)[j]? = some (flatK (faRow pa) 3 L.toArray)[j]! := by
  rw [get_flatK (faRow pa) 3 L.toArray j (by simpa using h)]
  have hi : j / 3 < L.length := by omega
  have h1 := faCells_at pa L (j / 3) L[j / 3] (List.getElem?_eq_getElem hi) (j % 3) (by omega)
  have hg : L.toArray[j / 3]! = L[j / 3] := by simp [hi]
  rw [hg]
  rw [show j / 3 * 3 + j % 3 = j by omega] at h1
  rw [h1]
  rcases (show j % 3 = 0 ∨ j % 3 = 1 ∨ j % 3 = 2 by omega) with hm | hm | hm <;> rw [hm] <;> rfl
theorem holds_faults {w : World} {g : Nat} {cur : Array Value} {e : TypeId} {L : List FaultR} (hb : w.heap[g]? = some (.cells cur e (0, 0))) (ht : cur.toList.take (L.length * 3) = faCells pa L) : HoldsK (faRow pa) 3 w g 0 L.toArray := by
  intro j hj
  have hj' : j < L.length * 3 := by simpa using hj
  have h0 := flat_faults (pa := pa) L j hj'
  rw [← ht, List.getElem?_take_of_lt hj', Array.getElem?_toList] at h0
  refine ⟨?_, by simp [World.frozen?, hb]⟩
  rw [Nat.zero_add]
  rw [cell_of_row w g j cur e (0, 0) hb, h0]; rfl
theorem heap_sortedFa {w : World} {g n : Nat} {os : Array Obj} {cur : Array Value} {e : TypeId} {fr : Nat × Nat} (d : Array FaultR) (hb : w.heap[g]? = some (.cells cur e fr)) :
    (grow (putRowK (faRow pa) 3 (Sort.ahead w n) g 0 d) os).heap[g]? = some (.cells (putCells id 0 (flatK (faRow pa) 3 d) cur) e fr) := by
  have hg : g < w.heap.size := (Array.getElem?_eq_some_iff.1 hb).1
  rw [heap_grow_old _ _ (by simpa [putRowK] using hg)]
  simp [putRowK, Sort.putRow, mapBlock, Sort.ahead, Array.getElem?_modify, hb, onCells]
theorem grownBy_sortedFa {w : World} {g n : Nat} {os : Array Obj} (d : Array FaultR) : w.grownBy (grow (putRowK (faRow pa) 3 (Sort.ahead w n) g 0 d) os) (some g) := by
  refine ⟨rfl, rfl, rfl, by simp [putRowK], fun k hk hne => ?_⟩
  rw [heap_grow_old _ _ (by simpa [putRowK] using hk)]
  have : g ≠ k := fun e => hne (by rw [e])
  simp [putRowK, Sort.putRow, mapBlock, Sort.ahead, Array.getElem?_modify, this]
theorem take_putCellsFa (cur : Array Value) (L : List FaultR) (h : L.length * 3 ≤ cur.size) : (putCells id 0 (flatK (faRow pa) 3 L.toArray) cur).toList.take (L.length * 3) = faCells pa L := by
  apply List.ext_getElem?
  intro j
  by_cases hj : j < L.length * 3
  · rw [List.getElem?_take_of_lt hj, Array.getElem?_toList, flat_faults L j hj]
    simp [putCells, hj, show j < cur.size by omega]
  · rw [List.getElem?_take_eq_none (by omega), List.getElem?_eq_none (by rw [faCells_len pa]; omega)]
theorem ownsRow_sortedFa {w : World} {base g cap n : Nat} {e : TypeId} {os : Array Obj} {cur : Array Value} {m : Nat} {L : List FaultR} (hl : L.length = m) (hbase : base ≤ g) (hb : w.heap[g]? = some (.cells cur e (0, 0)))
    (h1 : m ≤ cap) (h2 : cap ≤ maxLen) (h3 : cur.size = cap * 3) :
    (grow (putRowK (faRow pa) 3 (Sort.ahead w n) g 0 L.toArray) os).ownsRow base e 3 (.slice (some ⟨g, 0, none⟩) m cap) m (faCells pa L) :=
  ⟨by rw [faCells_len pa, hl], .inr ⟨g, cap, _, rfl, hbase, heap_sortedFa _ hb, h1, h2, by simp [putCells, h3], by rw [← hl]; exact take_putCellsFa cur L (by omega)⟩⟩

def SortFaPost (N : Nat) (pa : ByteArray) (v : Value) (L : List FaultR) (w : World) (e : Ending) (w' : World) : Prop :=
  e = .returned (.tuple #[]) ∧ ∃ L' : List FaultR, L'.Perm L ∧ L'.Pairwise (fun x y => FaLe x y) ∧ w'.ownsRow N 41 3 v L.length (faCells pa L') ∧ w.grownBy w' v.ownBlock
set_option maxRecDepth 100000 in
set_option maxHeartbeats 2000000 in
theorem sortFaults_q (N Bs jb : Nat) (v : Value) (L : List FaultR) (w : World) (h : w.ownsRow N 41 3 v L.length (faCells pa L)) (hl : L.length ≤ 1048576) (hB : w.cell? ⟨Bs, 0, none⟩ = some (.pointer (some ⟨jb, 0, none⟩))) (hJ : w.cell? ⟨jb, 2, none⟩ = some v) (hne : v.ownBlock ≠ some Bs) (hne2 : v.ownBlock ≠ some jb) :
    Calls Tryz.prog 33 #[.iface 36 v, .func (.func 34) #[] #[.pointer (some ⟨Bs, 0, none⟩)]] w (SortFaPost N pa v L w) := by
  obtain ⟨A, c, rfl, hc, hlc, hA⟩ := own_form h
  by_cases h2 : L.length ≤ 1
  · have tiny : ∀ n : Nat, n ≤ 1 → n = L.length → Calls Tryz.prog 33 #[.iface 36 (.slice A n c), .func (.func 34) #[] #[.pointer (some ⟨Bs, 0, none⟩)]] w fun e w' => e = .returned (.tuple #[]) ∧ ∃ os, w' = grow w os := by
      intro n hn _
      rcases (show n = 0 ∨ n = 1 by omega) with rfl | rfl
      · exact Any.sort_SliceStable_tiny Tryz.laysGt8 36 41 faT faE (by kernel_rfl) (by kernel_rfl) (by kernel_rfl) (by kernel_rfl) 25 (fun _ => by kernel_rfl) A 0 c (by omega) 99 (by rw [show Lib.swapperK 0 faE 25 = 1 from rfl]; kernel_rfl) _ _ _ w
      · exact Any.sort_SliceStable_tiny Tryz.laysGt8 36 41 faT faE (by kernel_rfl) (by kernel_rfl) (by kernel_rfl) (by kernel_rfl) 25 (fun _ => by kernel_rfl) A 1 c (by omega) 100 (by rw [show Lib.swapperK 1 faE 25 = 2 from rfl]; kernel_rfl) _ _ _ w
    refine (tiny L.length h2 rfl).mono ?_
    rintro e w' ⟨rfl, os, rfl⟩
    have hb : Below w.heap.size w (grow w os) := Lib.below_grow _ _ (Nat.le_refl _) 0 os
    refine ⟨rfl, L, List.Perm.refl _, ?_, own_stay h hb, grown_below hb⟩
    match L, h2 with
    | [], _ => exact List.Pairwise.nil
    | [a], _ => exact List.pairwise_singleton _ _
  · have h2' : 2 ≤ L.length := by omega
    rcases h.2 with ⟨h3, h0⟩ | ⟨g, cap, cur, hv, hN, hg, hnc, hm, hsz, htake⟩
    · omega
    · cases hv
      have hgl : g < w.heap.size := (Array.getElem?_eq_some_iff.1 hg).1
      have hBl : Bs < w.heap.size := World.block_lt_of_cell? _ _ hB
      have hBg : Bs ≠ g := fun e => hne (by rw [e]; rfl)
      have hJl : jb < w.heap.size := World.block_lt_of_cell? _ _ hJ
      have hJg : jb ≠ g := fun e => hne2 (by rw [e]; rfl)
      have hH : HoldsK (faRow pa) 3 w g 0 L.toArray := holds_faults hg htake
      have hsL : L.toArray.size = L.length := by simp
      have hless : LessG Tryz.prog 34 #[.pointer (some ⟨Bs, 0, none⟩)] (faRow pa) 3 faLt g 0 L.toArray.size w := by
        intro dk wr hs hz i j hi hj
        obtain ⟨m, os, rfl⟩ := hs
        have e : sortWorldK (faRow pa) 3 w g 0 m dk os = putRowK (faRow pa) 3 (grow (Sort.ahead w m) os) g 0 dk := by
          unfold sortWorldK; rw [putRowK_grow _ _ (Sort.ahead w m) _ g 0 _ hgl]
        have hHg : HoldsK (faRow pa) 3 (grow (Sort.ahead w m) os) g 0 L.toArray := holdsK_grow _ _ _ _ g 0 L.toArray hgl (holdsK_ahead _ _ _ _ _ _ _ hH)
        have cells : ∀ t, t < L.length → FaC (sortWorldK (faRow pa) 3 w g 0 m dk os) g (t * 3) pa dk[t]! := fun t ht => by
          have hc := fun c hc => ((holdsK_putRowK _ _ _ g 0 _ dk hHg hz).cell (i := t) (c := c) (by omega) hc).1
          rw [e]
          have h0 := hc 0 (by omega)
          have h1 := hc 1 (by omega)
          have h2 := hc 2 (by omega)
          simp only [Nat.zero_add, Nat.add_zero] at h0 h1 h2
          exact ⟨h0, h1, h2⟩
        refine faLess_q g L.length c Bs jb pa _ dk[i]! dk[j]! ?_ ?_ i j (by omega) (by omega) (cells i (by omega)) (cells j (by omega))
        · rw [e, cell?_putRowK_other _ _ _ g 0 dk _ (by exact hBg), cell?_grow _ _ _ (by exact hBl)]; exact hB
        · rw [e, cell?_putRowK_other _ _ _ g 0 dk _ (by exact hJg), cell?_grow _ _ _ (by exact hJl)]; exact hJ
      have key : Calls Tryz.prog 33 #[.iface 36 (.slice (some ⟨g, 0, none⟩) L.toArray.size c), .func (.func 34) #[] #[.pointer (some ⟨Bs, 0, none⟩)]] w fun e w' => e = .returned (.tuple #[]) ∧ ∃ d' n os, PermIn 0 L.toArray.size L.toArray d' ∧ SortedIn faLt 0 L.toArray.size d' ∧ w' = grow (putRowK (faRow pa) 3 (Sort.ahead w n) g 0 d') os := sliceStable_sorted 36 41 faT faE (by kernel_rfl) (by kernel_rfl) (by kernel_rfl) (by kernel_rfl) 25 (fun _ => by kernel_rfl) (faRow pa) 3 (fun _ => rfl) (by kernel_rfl) (fun _ => by kernel_rfl)
        (faRow_one pa) faLt swo_faLt 34 _
        (enters_of Tryz.func34 (by kernel_rfl) rfl) g 0 c L.toArray (by omega) (by omega) 107 (by rw [faK _ (by omega)]; kernel_rfl) false
        (fun args W => run_callFunc_extern Tryz.func107 (by kernel_rfl) (by kernel_rfl) (by kernel_rfl) (e := Extern.ReflectliteSwapper.swap false) (by kernel_rfl) args W) w hless hH hgl
      rw [hsL] at key
      refine Calls.mono key ?_
      rintro e w' ⟨rfl, d', n, os, hp, hs, rfl⟩
      obtain ⟨hp1, _, hp3⟩ := hp
      have hd : d'.toList.toArray = d' := by simp
      have hl' : d'.toList.length = L.length := by rw [Array.length_toList, hp1, hsL]
      refine ⟨rfl, d'.toList, ?_, ?_, ?_, ?_⟩
      · have e1 : (d'.extract 0 L.length).toList = d'.toList := by rw [show L.length = d'.size by omega]; simp
        have e2 : (L.toArray.extract 0 L.length).toList = L := by rw [← hsL]; simp
        rw [e1, e2] at hp3
        exact hp3
      · rw [List.pairwise_iff_getElem]
        intro i j hi hj hij
        have h9 := hs i j (Nat.zero_le _) hij (by omega)
        have e1 : d'[j]! = d'.toList[j] := by simp [show j < d'.size by simpa using hj]
        have e2 : d'[i]! = d'.toList[i] := by simp [show i < d'.size by simpa using hi]
        rw [e1, e2] at h9
        exact h9
      · have := ownsRow_sortedFa (pa := pa) (n := n) (os := os) hl' hN hg hnc hm (by simpa using hsz)
        rwa [hd] at this
      · exact grownBy_sortedFa _

end

end Go.Proofs.YtbhildmalcfhiaaGreatDoor

namespace Go.Proofs.YtbhildmalcfhiaaGreatDoor
open Go.RowKit Go.Deep

def faAll (T : List TokR) : List FaultR := tagEnd (tagTo T T.length) ++ nestEnd (nestTo T T.length)
def faLeB (a b : FaultR) : Bool := !faLt b a
def faS (T : List TokR) : List FaultR := (refEnd (refTo T T.length)).mergeSort faLeB
theorem faS_sorted (T : List TokR) : (faS T).Pairwise FaLe := by
  have h := List.pairwise_mergeSort (le := faLeB) (fun a b c h1 h2 => by
      simp only [faLeB, Bool.not_eq_true'] at *
      rw [faLt_no] at *
      omega) (fun a b => by
      simp only [faLeB, Bool.or_eq_true, Bool.not_eq_true']
      rw [faLt_no, faLt_no]
      omega) (refEnd (refTo T T.length))
  exact h.imp (fun {a b} h => by simp only [faLeB, Bool.not_eq_true'] at h; exact h)
theorem faS_perm (T : List TokR) : (faS T).Perm (refEnd (refTo T T.length)) := List.mergeSort_perm _ _
theorem faS_of {T : List TokR} {L : List FaultR} (hp : L.Perm (faAll T)) (hs : L.Pairwise FaLe) : L = faS T := faults_unique hs (faS_sorted T) ((hp.trans (faults_perm T)).trans (faS_perm T).symm)
theorem faS_ref {T : List TokR} {L : List FaultR} (hp : L.Perm (refEnd (refTo T T.length))) (hs : L.Pairwise FaLe) : L = faS T := faults_unique hs (faS_sorted T) (hp.trans (faS_perm T).symm)
theorem one_len {p : Prop} [Decidable p] (x : FaultR) : (if p then [x] else []).length ≤ 1 := by split <;> simp
theorem tag_len (T : List TokR) : ∀ k, (tagTo T k).out.length ≤ 5 * k
  | 0 => by simp [tagTo]
  | k + 1 => by
    have ih := tag_len T k
    rw [tagTo]
    split
    · unfold tagStep
      split
      · rename_i t _ _
        have a1 : (oAlt t).length ≤ 1 := one_len _
        have a2 : (oHead (tagTo T k).last t).length ≤ 1 := one_len _
        have a3 : (oId (tagTo T k).ids t).length ≤ 1 := one_len _
        have a4 : (oTitle (tagTo T k).titled T k t).length ≤ 1 := one_len _
        have a5 : (oLink T k t).length ≤ 1 := one_len _
        simp only [List.length_append]
        omega
      · omega
    · omega
theorem nest_len (T : List TokR) : ∀ k, (nestTo T k).out.length + (nestTo T k).open_.length ≤ k
  | 0 => by simp [nestTo]
  | k + 1 => by
    have ih := nest_len T k
    rw [nestTo]
    split
    · unfold nestStep
      split
      · simp; omega
      · split
        · unfold closeStep
          split
          · simp; omega
          · simp only [List.length_append, unclosed_len, List.length_drop, List.length_take]; omega
        · omega
    · omega
theorem faAll_len (T : List TokR) : (faAll T).length ≤ 6 * T.length + 1 := by
  have h1 := tag_len T T.length
  have h2 := nest_len T T.length
  unfold faAll tagEnd nestEnd
  rw [List.length_append, List.length_append, List.length_append, unclosed_len]
  split <;> simp <;> omega
theorem faS_len (T : List TokR) : (faS T).length = (faAll T).length := ((faS_perm T).trans (faults_perm T).symm).length_eq
theorem tagEnd_len (T : List TokR) : (tagEnd (tagTo T T.length)).length ≤ 5 * T.length + 1 := by
  have h1 := tag_len T T.length
  unfold tagEnd
  rw [List.length_append]
  split <;> simp <;> omega
def pfRow (x : ByteArray × FaultR) : List Value := faRow x.1 x.2
def pfCells (D : List (ByteArray × FaultR)) : List Value := D.flatMap pfRow
theorem pfCells_append (a b : List (ByteArray × FaultR)) : pfCells (a ++ b) = pfCells a ++ pfCells b := by simp [pfCells]
def withP (p : ByteArray) (L : List FaultR) : List (ByteArray × FaultR) := L.map fun x => (p, x)
theorem pfCells_with (p : ByteArray) (L : List FaultR) : pfCells (withP p L) = faCells p L := by
  simp [pfCells, withP, faCells, List.flatMap_map]; rfl
theorem withP_len (p : ByteArray) (L : List FaultR) : (withP p L).length = L.length := by simp [withP]
def outFa (o : OutV) : List (ByteArray × FaultR) := if pageB o.path = true then withP o.path (faS (tokR o.body)) else []
def allFa (l : List OutV) : List (ByteArray × FaultR) := l.flatMap outFa
theorem outFa_len (o : OutV) : (outFa o).length ≤ 200000 := by
  unfold outFa
  split
  · rw [withP_len, faS_len]
    have := faAll_len (tokR o.body)
    have := tokR_len o.body
    omega
  · simp
theorem allFa_step {l : List OutV} {k : Nat} {x : OutV} {D : List (ByteArray × FaultR)} (h : allFa (l.take k) = D) (hx : l[k]? = some x) : allFa (l.take (k + 1)) = D ++ outFa x := by rw [← h, allFa, flat_take _ hx]; rfl
def faultsL (l : List OutV) : List (ByteArray × FaultR) := if linksN l = 0 then allFa l else []
def FaultsE (D : List (ByteArray × FaultR)) (n : Int) (w : World) (e : Ending) (w' : World) : Prop :=
  ∃ (A : Option Addr) (c : Nat), e = .returned (.tuple #[.slice A D.length c, .int .i64 n]) ∧ w'.ownsRow w.heap.size 41 3 (.slice A D.length c) D.length (pfCells D) ∧ Below w.heap.size w w'
theorem FaultsE.mk {D D' : List (ByteArray × FaultR)} {n n' : Int} {A : Option Addr} {c q B : Nat} {w w' : World} (hB : B = w.heap.size) (h : D' = D) (hn : n' = n) (hq : D.length = q) (ho : w'.ownsRow B 41 3 (.slice A q c) q (pfCells D)) (hb : Below B w w') : FaultsE D' n' w (.returned (.tuple #[.slice A q c, .int .i64 n])) w' := by
  subst h; subst hq; subst hB; subst hn
  exact ⟨A, c, rfl, ho, hb⟩
/-- what is known of a page's tokens -/
theorem page_text {L : List (TokR × Value)} {s : ByteArray} (h : L.map (·.1) = tokR s) : ∀ x ∈ L, x.1.text.size ≤ 1048576 := fun x hx => by
  have : x.1 ∈ tokR s := by rw [← h]; exact List.mem_map.2 ⟨x, hx, rfl⟩
  exact Nat.le_trans (tokR_text this) (by omega)
theorem page_vals {L : List (TokR × Value)} {s : ByteArray} (h : L.map (·.1) = tokR s) : ∀ x ∈ L, ∀ a ∈ x.1.atts, a.value.size ≤ maxLen := fun x hx a ha => by
  have : x.1 ∈ tokR s := by rw [← h]; exact List.mem_map.2 ⟨x, hx, rfl⟩
  have := tokR_vals this a ha
  unfold maxLen; omega

end Go.Proofs.YtbhildmalcfhiaaGreatDoor
