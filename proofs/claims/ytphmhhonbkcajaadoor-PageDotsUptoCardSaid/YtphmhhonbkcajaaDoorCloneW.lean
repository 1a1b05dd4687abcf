/-
  A value copied with all below: build.clone's walk.
-/
import Derived.Test.YtphmhhonbkcajaaDoorCloneV
namespace Go.Proofs.YtphmhhonbkcajaaDoor
open Go.RowKit Go.Deep

theorem CB.setOther {w : World} {n m o : Nat} {t : TypeId} {cs : Array Value} (h : CB w n t cs) (hne : n ≠ m) (v : Value) : CB (w.setCell ⟨m, o, none⟩ v) n t cs := h.other (grown_setB w m o v) (fun e => hne (Option.some.inj e))
theorem keepsIn_set {w : World} {n o B : Nat} {v : Value} (hn : n < B) : KeepsIn (fun b => B ≤ b) w (w.setCell ⟨n, o, none⟩ v) := by
  intro a x hp hx
  rw [World.cell?_of_block ((grown_setB w n o v).block a.block (World.block_lt_of_cell? _ _ hx) (fun e => by have := Option.some.inj e; omega))]
  exact hx
theorem val_atC {N : Nat} {v : Val} {k : Nat} {n : Val} (hN : SizeOf.sizeOf v ≤ N + 1) (h : v.items[k]? = some n) : SizeOf.sizeOf n ≤ N := val_at hN h

end Go.Proofs.YtphmhhonbkcajaaDoor
