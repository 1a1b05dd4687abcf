/-
  A table made of keys and items: build.table, mastref1.table.
-/
import Derived.Test.YtphmhhonbkcajaaDoorSmallV
namespace Go.Proofs.YtphmhhonbkcajaaDoor
open Go.RowKit Go.Deep

def SpOk (w : World) : Prop := Lib.TabIs Tryd.prog w "strings.asciiSpace" .u8 Lib.asciiSpaceTab
theorem SpOk.keep {w w' : World} (h : SpOk w) (hb : Below w.heap.size w w') : SpOk w' := by
  unfold SpOk Lib.TabIs World.var? at *
  obtain ⟨g, hg, hv⟩ := Option.bind_eq_some_iff.1 h
  rw [hg, Option.bind_some]
  have hlt : g < w.heap.size := by
    rcases Nat.lt_or_ge g w.heap.size with h1 | h1
    · exact h1
    · rw [Array.getElem?_eq_none h1] at hv; cases hv
  rw [hb.block g hlt]
  exact hv
def tabV (v kv : Value) : Value := .agg #[.int .i64 6, .bool false, .int .i64 0, .string ⟨#[]⟩, v, kv]
def keysC (l : List (List UInt8)) : Array Value := (l.map fun l => Value.string ⟨l.toArray⟩).toArray
/-- a table with its keys in a new block -/
def TabPost (v : Value) (ks : List (List UInt8)) (w : World) (e : Ending) (w' : World) : Prop := ∃ g : Nat, e = .returned (tabV v (.slice (some ⟨g, 0, none⟩) ks.length ks.length)) ∧ w.heap.size ≤ g ∧ CB w' g 9 (keysC ks) ∧ Below w.heap.size w w'

set_option maxRecDepth 100000 in
set_option maxHeartbeats 2000000 in
theorem table_r (A : Option Addr) (n c : Nat) (A2 : Option Addr) (n2 c2 : Nat) (w : World) :
    Calls Tryd.prog 21 #[.slice A2 n2 c2, .slice A n c] w fun e w' => e = .returned (tabV (.slice A n c) (.slice A2 n2 c2)) ∧ Below w.heap.size w w' := by
  go_enter Tryd.func21, Tryd.ntmps21
  go_wp2_with fail
  exact val_done (n := w.heap.size) rfl (CB.new w _ _) rfl rfl rfl ⟨rfl, (Below.refl _ _).alloc (Nat.le_refl _) _⟩

end Go.Proofs.YtphmhhonbkcajaaDoor
