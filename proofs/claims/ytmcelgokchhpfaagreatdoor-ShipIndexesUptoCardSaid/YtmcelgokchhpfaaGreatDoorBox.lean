/-
  A block of cells that the call itself made (CB); the table of powers and strconv.Itoa.
-/
import Derived.Test.YtmcelgokchhpfaaGreatDoorBase
import Derived.Laws.Rows
import Derived.Test.YtmcelgokchhpfaaGreatDoorShelf
import Derived.Lib.LaidTab
import Derived.Lib.AppendIntMem
namespace Go.Proofs.YtmcelgokchhpfaaGreatDoor
open Go.RowKit Go.Deep

theorem grown_setB (W : World) (g o : Nat) (v : Value) : W.grownBy (W.setCell ⟨g, o, none⟩ v) (some g) :=
  ⟨rfl, rfl, rfl, by simp [World.setCell], fun k _ hk => Below.heap_setCell _ _ _ k (fun e => hk (by rw [e]))⟩
/-- a block of cells -/
def CB (w : World) (n : Nat) (t : TypeId) (cs : Array Value) : Prop := w.heap[n]? = some (.cells cs t (0, 0))
section
variable {w w' : World} {n : Nat} {t : TypeId} {cs : Array Value}
theorem CB.lt (h : CB w n t cs) : n < w.heap.size := (Array.getElem?_eq_some_iff.1 h).1
theorem CB.c (h : CB w n t cs) (i : Nat) : w.cell? ⟨n, i, none⟩ = cs[i]? := cell_of_row w n i cs t (0, 0) h
theorem CB.f (h : CB w n t cs) (i : Nat) : w.frozen? ⟨n, i, none⟩ = false := frozen_of_row w n i cs t h
theorem CB.sh (h : CB w n t cs) : w.shape? n = some (t, cs.size) := by simp [World.shape?, show w.heap[n]? = _ from h]
theorem CB.put (h : CB w n t cs) (i : Nat) (v : Value) : CB (w.setCell ⟨n, i, none⟩ v) n t (cs.setIfInBounds i v) := heap_setCell_same w n i cs t v h
theorem CB.other {row : Option Nat} (h : CB w n t cs) (hg : w.grownBy w' row) (hne : some n ≠ row) : CB w' n t cs := (hg.block n h.lt hne).trans h
theorem CB.alloc (h : CB w n t cs) (o : Obj) : CB (w.alloc o) n t cs := h.other (World.grownBy_alloc w o none) (by simp)
theorem CB.below (h : CB w n t cs) (hb : Below w.heap.size w w') : CB w' n t cs := (hb.block n h.lt).trans h
theorem CB.new (w : World) (cs : Array Value) (t : TypeId) : CB (w.alloc (.cells cs t)) w.heap.size t cs := heap_alloc_new w _
theorem CB.drew (h : CB w n t cs) : CB w.drew n t cs := h.below (Below.refl _ _).drew
theorem CB.drewN (h : CB w n t cs) (k : Nat) : CB (w.drewN k) n t cs := h
/-- in a world that has grown above B, at a block below B -/
theorem CB.belowB {B : Nat} (h : CB w n t cs) (hb : Below B w w') (hn : n < B) : CB w' n t cs := (hb.block n hn).trans h
end

/-- the table of powers lies where it lay -/
def TabOk (w : World) : Prop := Lib.TabIs Tryz.prog w "internal/strconv.uint64pow10" .u64 Lib.pow10Tab
theorem TabOk.keep {w w' : World} (h : TabOk w) (hb : Below w.heap.size w w') : TabOk w' := by
  unfold TabOk Lib.TabIs World.var? at *
  obtain ⟨g, hg, hv⟩ := Option.bind_eq_some_iff.1 h
  rw [hg, Option.bind_some]
  have hlt : g < w.heap.size := by
    rcases Nat.lt_or_ge g w.heap.size with h1 | h1
    · exact h1
    · rw [Array.getElem?_eq_none h1] at hv; cases hv
  rw [hb.block g hlt]
  exact hv
theorem TabOk.drew {w : World} (h : TabOk w) : TabOk w.drew := h.keep (Below.refl _ _).drew

theorem itoa_any (n : Int) (w : World) (h : I64 n) (ht : TabOk w) : Calls Tryz.prog 34 #[.int .i64 n] w fun e w' => e = .returned (.string ⟨(Lib.itoa n).toArray⟩) ∧ Below w.heap.size w w' :=
  (Tryz.strconv_Itoa n h.1 h.2 w ht).mono fun _ _ ⟨he, k, os, hw⟩ => ⟨he, by rw [hw]; exact Lib.below_grow _ _ (Nat.le_refl _) k os⟩

end Go.Proofs.YtmcelgokchhpfaaGreatDoor
