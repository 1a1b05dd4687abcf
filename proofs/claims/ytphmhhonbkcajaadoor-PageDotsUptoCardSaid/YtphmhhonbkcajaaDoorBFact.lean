/-
  The value of a name, copied: build.Fact.
-/
import Derived.Test.YtphmhhonbkcajaaDoorCloneW
namespace Go.Proofs.YtphmhhonbkcajaaDoor
open Go.RowKit Go.Deep

/-- there is a fact of that name -/
def foundB (l : List (ByteArray × Val)) (nm : ByteArray) : Bool := l.any fun x => x.1.toList == nm.toList
theorem foundB_at {l : List (ByteArray × Val)} {nm : ByteArray} {k : Nat} {x : ByteArray × Val} (h : l[k]? = some x) (hx : (x.1.toList == nm.toList) = true) : foundB l nm = true := by
  unfold foundB
  rw [List.any_eq_true]
  exact ⟨x, List.mem_of_getElem? h, hx⟩
theorem foundB_none {l : List (ByteArray × Val)} {nm : ByteArray} (hb : ∀ (j : Nat) (y : ByteArray × Val), l[j]? = some y → (y.1.toList == nm.toList) = false) : foundB l nm = false := by
  unfold foundB
  rw [List.any_eq_false]
  intro x hx
  obtain ⟨j, hj⟩ := List.getElem?_of_mem hx
  rw [hb j x hj]
  simp
theorem val_done2 {fn : Func} {a : Act} {W : World} {Post : Ending → World → Prop} {n p q : Nat} {cs : Array Value} {b : Bool} (hfn : fn.results = #[.cell p 35, .tmp q]) (hb : CB W n 35 cs) (hs : cs.size = 6)
    (hp : a.tmps.getD p undef = .pointer (some ⟨n, 0, none⟩)) (hc : a.tmps.getD q undef = .bool b) (hd : a.defers = []) (h : Post (.returned (.tuple #[.agg cs, .bool b])) W) : bodyPost Tryd.prog fn Post .ret a W := by
  refine bodyPost_ret ?_ hd h
  rw [results_cell_tmp hfn, hp, hc]
  have h2 := run_loadVar_row (P := Tryd.prog) W n 35 35 cs (0, 0) _ hb Tryd.underlying35 rfl (by rw [hs]; kernel_rfl)
  simp [asAddr, h2, Result.andThen]
/-- a value and whether there is one -/
def BFactPost (r : Val) (b : Bool) (w : World) (e : Ending) (w' : World) : Prop := ∃ (A1 : Option Addr) (n1 c1 : Nat) (A2 : Option Addr) (n2 c2 : Nat), e = .returned (.tuple #[valAgg r (.slice A1 n1 c1) (.slice A2 n2 c2), .bool b]) ∧ ValIn w' AnyB (valAgg r (.slice A1 n1 c1) (.slice A2 n2 c2)) r ∧ Below w.heap.size w w'
theorem _root_.Go.RowKit.Below.setB {B : Nat} {a w : World} {n : Nat} (h : Below B a w) (hn : B ≤ n) (o : Nat) (v : Value) : Below B a (w.setCell ⟨n, o, none⟩ v) := h.setCell (p := ⟨n, o, none⟩) hn v

end Go.Proofs.YtphmhhonbkcajaaDoor
