/-
  Facts looked up: page.fact, mastref1.FactOf; items of a table: page.item, mastref1.ItemOf.
-/
import Derived.Test.YtphmhhonbkcajaaDoorNameds
import Derived.Test.YtphmhhonbkcajaaDoorPagePart
import Derived.Laws.Rows
namespace Go.Proofs.YtphmhhonbkcajaaDoor
open Go.RowKit Go.Deep

theorem grown_setB (W : World) (g o : Nat) (v : Value) : W.grownBy (W.setCell ⟨g, o, none⟩ v) (some g) :=
  ⟨rfl, rfl, rfl, by simp [World.setCell], fun k _ hk => Below.heap_setCell _ _ _ k (fun e => hk (by rw [e]))⟩
/-- a block of cells -/
def CB (w : World) (n : Nat) (t : TypeId) (cs : Array Value) : Prop := w.heap[n]? = some (.cells cs t (0, 0))
section
variable {w w' : World} {n : Nat} {t : TypeId} {cs : Array Value}
theorem CB.lt (h : CB w n t cs) : n < w.heap.size := (Array.getElem?_eq_some_iff.1 h).1
theorem CB.c (h : CB w n t cs) (i : Nat) : w.cell? ⟨n, i, none⟩ = cs[i]? := cell_of_row w n i cs t (0, 0) h
theorem CB.f (h : CB w n t cs) (i : Nat) : w.frozen? ⟨n, i, none⟩ = false := frozen_of_row w n i cs t h
theorem CB.sh (h : CB w n t cs) : w.shape? n = some (t, cs.size) := by simp [World.shape?, show w.heap[n]? = _ from h]
theorem CB.put (h : CB w n t cs) (i : Nat) (v : Value) : CB (w.setCell ⟨n, i, none⟩ v) n t (cs.setIfInBounds i v) := heap_setCell_same w n i cs t v h
theorem CB.other {row : Option Nat} (h : CB w n t cs) (hg : w.grownBy w' row) (hne : some n ≠ row) : CB w' n t cs := (hg.block n h.lt hne).trans h
theorem CB.alloc (h : CB w n t cs) (o : Obj) : CB (w.alloc o) n t cs := h.other (World.grownBy_alloc w o none) (by simp)
theorem CB.below (h : CB w n t cs) (hb : Below w.heap.size w w') : CB w' n t cs := (hb.block n h.lt).trans h
theorem CB.new (w : World) (cs : Array Value) (t : TypeId) : CB (w.alloc (.cells cs t)) w.heap.size t cs := heap_alloc_new w _
end

/-- nothing -/
def valZ : Val := .mk 0 false 0 ⟨#[]⟩ [] []
theorem valZ_in (w : World) : ValIn w AnyB (valAgg valZ (.slice none 0 0) (.slice none 0 0)) valZ :=
  ⟨_, _, rfl, ⟨⟨by decide, by decide⟩, ⟨by decide, by decide⟩, Nat.zero_le _⟩, ValsIn.nil _ _, StrsIn.nil _ _⟩
/-- a value's cells -/
def valC (n : Val) (iv kv : Value) : Array Value := #[.int .i64 n.kind, .bool n.flag, .int .i64 n.num, .string n.text, iv, kv]

/-- the value of a fact -/
def factO (l : List (ByteArray × Val)) (name : ByteArray) : Val := match l.find? (fun x => x.1.toList == name.toList) with
  | some x => x.2
  | none => valZ
theorem factO_at {l : List (ByteArray × Val)} {name : ByteArray} {k : Nat} {x : ByteArray × Val} (h : l[k]? = some x) (hx : (x.1.toList == name.toList) = true)
    (hb : ∀ (j : Nat) (y : ByteArray × Val), l[j]? = some y → j < k → (y.1.toList == name.toList) = false) : factO l name = x.2 := by
  unfold factO
  have : l.find? (fun x => x.1.toList == name.toList) = some x := by
    rw [List.find?_eq_some_iff_getElem]
    obtain ⟨hk, he⟩ := List.getElem?_eq_some_iff.1 h
    exact ⟨hx, k, hk, he, fun j hj => by
      have := hb j _ (List.getElem?_eq_getElem (by omega)) hj
      simp [this]⟩
  rw [this]
theorem factO_none {l : List (ByteArray × Val)} {name : ByteArray} (hb : ∀ (j : Nat) (y : ByteArray × Val), l[j]? = some y → (y.1.toList == name.toList) = false) : factO l name = valZ := by
  unfold factO
  have : l.find? (fun x => x.1.toList == name.toList) = none := by
    rw [List.find?_eq_none]
    intro y hy
    obtain ⟨j, hj⟩ := List.getElem?_of_mem hy
    simp [hb j y hj]
  rw [this]

/-- a value is returned -/
def ValPostF (n : Val) (w : World) (e : Ending) (w' : World) : Prop := ∃ (A1 : Option Addr) (n1 c1 : Nat) (A2 : Option Addr) (n2 c2 : Nat), e = .returned (valAgg n (.slice A1 n1 c1) (.slice A2 n2 c2)) ∧ ValIn w' AnyB (valAgg n (.slice A1 n1 c1) (.slice A2 n2 c2)) n ∧ Below w.heap.size w w'

theorem ValIn.form {w : World} {n : Val} {iv kv : Value} (h : ValIn w AnyB (valAgg n iv kv) n) : (∃ A c, iv = .slice A n.items.length c) ∧ ∃ A c, kv = .slice A n.keys.length c := by
  obtain ⟨iv', kv', he, _, h3, h4⟩ := h
  have : iv = iv' ∧ kv = kv' := by unfold valAgg at he; simp at he; exact he
  obtain ⟨rfl, rfl⟩ := this
  obtain ⟨A, c, _, _, _, _, h1, _⟩ := h3.inv
  obtain ⟨A2, c2, _, _, h2, _⟩ := h4
  exact ⟨⟨A, c, h1⟩, ⟨A2, c2, h2⟩⟩

theorem val_done {fn : Func} {a : Act} {W : World} {Post : Ending → World → Prop} {n p : Nat} {cs : Array Value} (hfn : fn.results = #[.cell p 35]) (hb : CB W n 35 cs) (hs : cs.size = 6)
    (hp : a.tmps.getD p undef = .pointer (some ⟨n, 0, none⟩)) (hd : a.defers = []) (h : Post (.returned (.agg cs)) W) : bodyPost Tryd.prog fn Post .ret a W :=
  bodyPost_ret (results_cell_row (P := Tryd.prog) (p := p) (ty := 35) hfn _ W n 35 _ (0, 0) _ hp hb Tryd.underlying35 rfl (by rw [hs]; kernel_rfl)) hd h

/-- the value is returned out of a block -/
theorem val_fin {fn : Func} {a : Act} {w W : World} {n p : Nat} {x : Val} {A1 A2 : Option Addr} {n1 c1 n2 c2 : Nat} (hfn : fn.results = #[.cell p 35]) (hb : CB W n 35 (valC x (.slice A1 n1 c1) (.slice A2 n2 c2)))
    (hp : a.tmps.getD p undef = .pointer (some ⟨n, 0, none⟩)) (hd : a.defers = []) (hB : Below w.heap.size w W) (hv : ValIn w AnyB (valAgg x (.slice A1 n1 c1) (.slice A2 n2 c2)) x) : bodyPost Tryd.prog fn (ValPostF x w) .ret a W :=
  val_done hfn hb rfl hp hd ⟨A1, n1, c1, A2, n2, c2, rfl, hv.keeps (Keeps.of_below hB), hB⟩

/-- a value is returned that lay in memory before -/
def ValPostG (n : Val) (wa w : World) (e : Ending) (w' : World) : Prop := ∃ (A1 : Option Addr) (n1 c1 : Nat) (A2 : Option Addr) (n2 c2 : Nat), e = .returned (valAgg n (.slice A1 n1 c1) (.slice A2 n2 c2)) ∧ ValIn w' AnyB (valAgg n (.slice A1 n1 c1) (.slice A2 n2 c2)) n ∧ Below w.heap.size w w' ∧ ValIn wa AnyB (valAgg n (.slice A1 n1 c1) (.slice A2 n2 c2)) n
theorem val_fin0 {fn : Func} {a : Act} {wa w W : World} (hk : Keeps wa w) {n p : Nat} {x : Val} {A1 A2 : Option Addr} {n1 c1 n2 c2 : Nat} (hfn : fn.results = #[.cell p 35]) (hb : CB W n 35 (valC x (.slice A1 n1 c1) (.slice A2 n2 c2)))
    (hp : a.tmps.getD p undef = .pointer (some ⟨n, 0, none⟩)) (hd : a.defers = []) (hB : Below w.heap.size w W) (hv : ValIn wa AnyB (valAgg x (.slice A1 n1 c1) (.slice A2 n2 c2)) x) : bodyPost Tryd.prog fn (ValPostG x wa w) .ret a W :=
  val_done hfn hb rfl hp hd ⟨A1, n1, c1, A2, n2, c2, rfl, (hv.keeps hk).keeps (Keeps.of_below hB), hB, hv⟩

-- THE WALKS
end Go.Proofs.YtphmhhonbkcajaaDoor
