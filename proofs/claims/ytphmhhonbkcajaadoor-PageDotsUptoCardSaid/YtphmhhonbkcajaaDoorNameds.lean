/-
  Facts with their names ([]api.Named) as they lie in memory, and how an argument is opened into them.
-/
import Derived.Test.YtphmhhonbkcajaaDoorVals
namespace Go.Proofs.YtphmhhonbkcajaaDoor
open Go.RowKit Go.ChangeShapes Go.WideShapes Go.Deep

/-- a list of facts -/
def NamedsAt (w : World) (v : Value) (l : List (ByteArray × Val)) : Prop :=
  ∃ (A : Option Addr) (c b o : Nat) (iv kv : Nat → Value), v = .slice A l.length c ∧ l.length ≤ c ∧ c ≤ maxLen ∧ (l ≠ [] → A = some ⟨b, o, none⟩) ∧
    ∀ i x, l[i]? = some x → w.cell? ⟨b, o + i * 7, none⟩ = some (.string x.1) ∧ ValCells w b (o + i * 7 + 1) x.2 (iv i) (kv i) ∧ ValIn w AnyB (valAgg x.2 (iv i) (kv i)) x.2

theorem ValCells.keep {w w' : World} {b o : Nat} {n : Val} {iv kv : Value} (h : ValCells w b o n iv kv) (k : Keeps w w') : ValCells w' b o n iv kv :=
  ⟨k _ _ h.c0, k _ _ h.c1, k _ _ h.c2, k _ _ h.c3, k _ _ h.c4, k _ _ h.c5⟩
theorem ValIn.keeps {w w' : World} {v : Value} {n : Val} (h : ValIn w AnyB v n) (k : Keeps w w') : ValIn w' AnyB v n := h.keep (KeepsIn.of_keeps k) (fun _ _ _ => trivial)
theorem NamedsAt.keep {w w' : World} {v : Value} {l : List (ByteArray × Val)} (h : NamedsAt w v l) (k : Keeps w w') : NamedsAt w' v l := by
  obtain ⟨A, c, b, o, iv, kv, h1, h2, h3, h4, h5⟩ := h
  exact ⟨A, c, b, o, iv, kv, h1, h2, h3, h4, fun i x hi => ⟨k _ _ (h5 i x hi).1, (h5 i x hi).2.1.keep k, (h5 i x hi).2.2.keeps k⟩⟩

section
variable {H : Type} {enc : TypeId × Value → H} {w : World} {base : Nat} {spare : Nat → Bool} {held : Bool}

end

end Go.Proofs.YtphmhhonbkcajaaDoor
