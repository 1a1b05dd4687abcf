/-
  Memory that has grown, and of which only some blocks have turned.
-/
import Derived.Test.YtmcelgokchhpfaaGreatDoorBox
import Derived.Test.YtmcelgokchhpfaaGreatDoorOwn
namespace Go.Proofs.YtmcelgokchhpfaaGreatDoor
open Go.RowKit Go.Deep

/-- memory has grown, and of what was there no block has turned but those of p -/
structure GrownX (p : Nat → Prop) (w w' : World) : Prop where
  os : w'.os = w.os
  tape : w'.tape = w.tape
  output : w'.output = w.output
  size : w.heap.size ≤ w'.heap.size
  block : ∀ k, k < w.heap.size → ¬ p k → w'.heap[k]? = w.heap[k]?
theorem GrownX.refl (p : Nat → Prop) (w : World) : GrownX p w w := ⟨rfl, rfl, rfl, Nat.le_refl _, fun _ _ _ => rfl⟩
theorem GrownX.trans {p : Nat → Prop} {a b c : World} (h : GrownX p a b) (k : GrownX p b c) : GrownX p a c :=
  ⟨k.os.trans h.os, k.tape.trans h.tape, k.output.trans h.output, Nat.le_trans h.size k.size, fun x hx hp => (k.block x (Nat.lt_of_lt_of_le hx h.size) hp).trans (h.block x hx hp)⟩
/-- blocks that are new in the middle may be turned behind it -/
theorem GrownX.trans2 {p q : Nat → Prop} {a b c : World} (h : GrownX p a b) (k : GrownX q b c) (hq : ∀ x, x < a.heap.size → q x → p x) : GrownX p a c :=
  ⟨k.os.trans h.os, k.tape.trans h.tape, k.output.trans h.output, Nat.le_trans h.size k.size, fun x hx hp => (k.block x (Nat.lt_of_lt_of_le hx h.size) (fun e => hp (hq x hx e))).trans (h.block x hx hp)⟩
theorem GrownX.mono {p q : Nat → Prop} {a b : World} (h : GrownX p a b) (hq : ∀ x, x < a.heap.size → p x → q x) : GrownX q a b :=
  ⟨h.os, h.tape, h.output, h.size, fun x hx hp => h.block x hx (fun e => hp (hq x hx e))⟩
theorem GrownX.of_below {p : Nat → Prop} {a b : World} (h : Below a.heap.size a b) : GrownX p a b := ⟨h.os, h.tape, h.output, h.size, fun x hx _ => h.block x hx⟩
theorem GrownX.of_grown {p : Nat → Prop} {a b : World} {r : Option Nat} (h : a.grownBy b r) (hr : ∀ g, r = some g → p g) : GrownX p a b := ⟨h.os, h.tape, h.output, h.size, fun x hx hp => h.block x hx (fun e => hp (hr x e.symm))⟩
theorem GrownX.below {p : Nat → Prop} {a b : World} {B : Nat} (h : GrownX p a b) (hB : B ≤ a.heap.size) (hp : ∀ x, p x → B ≤ x) : Below B a b := ⟨h.os, h.tape, h.output, h.size, fun x hx => h.block x (Nat.lt_of_lt_of_le hx hB) (fun e => by have := hp x e; omega)⟩
theorem GrownX.drew {p : Nat → Prop} {a b : World} (h : GrownX p a b) : GrownX p a b.drew := ⟨h.os, h.tape, h.output, h.size, h.block⟩
theorem GrownX.drewN {p : Nat → Prop} {a b : World} (h : GrownX p a b) (n : Nat) : GrownX p a (b.drewN n) := ⟨h.os, h.tape, h.output, h.size, h.block⟩
theorem GrownX.alloc {p : Nat → Prop} {a b : World} (h : GrownX p a b) (o : Obj) : GrownX p a (b.alloc o) := h.trans (.of_below ((Below.refl _ _).alloc (Nat.le_refl _) o))
theorem GrownX.set {p : Nat → Prop} {a b : World} (h : GrownX p a b) {n : Nat} (hn : p n ∨ a.heap.size ≤ n) (o : Nat) (v : Value) : GrownX p a (b.setCell ⟨n, o, none⟩ v) :=
  h.trans2 (GrownX.of_grown (p := fun x => x = n) (grown_setB b n o v) (fun g hg => (Option.some.inj hg).symm)) (fun x hx e => by
    subst e
    rcases hn with hn | hn
    · exact hn
    · omega)
theorem GrownX.one (w : World) (n k o : Nat) (v : Value) : GrownX (fun x => x = n) w ((w.drewN k).setCell ⟨n, o, none⟩ v) := GrownX.set ((GrownX.refl (fun x => x = n) w).drewN k) (Or.inl rfl) o v
theorem GrownX.one0 (w : World) (n o : Nat) (v : Value) : GrownX (fun x => x = n) w (w.setCell ⟨n, o, none⟩ v) := GrownX.set (GrownX.refl (fun x => x = n) w) (Or.inl rfl) o v
theorem CB.keepX {w w' : World} {n : Nat} {t : TypeId} {cs : Array Value} {p : Nat → Prop} (h : CB w n t cs) (k : GrownX p w w') (hn : ¬ p n) : CB w' n t cs := (k.block n h.lt hn).trans h
theorem own_keepX {w w' : World} {B K n : Nat} {e : TypeId} {v : Value} {xs : List Value} {p : Nat → Prop} (h : w.ownsRow B e K v n xs) (k : GrownX p w w') (hp : ∀ g, v.ownBlock = some g → ¬ p g) : w'.ownsRow B e K v n xs := by
  obtain ⟨hl, h2⟩ := h
  refine ⟨hl, ?_⟩
  rcases h2 with h2 | ⟨g, cap, cur, h1, h3, h4, h5⟩
  · exact Or.inl h2
  · refine Or.inr ⟨g, cap, cur, h1, h3, ?_, h5⟩
    have hlt : g < w.heap.size := (Array.getElem?_eq_some_iff.1 h4).1
    rw [k.block g hlt (hp g (by rw [h1]; rfl))]
    exact h4

end Go.Proofs.YtmcelgokchhpfaaGreatDoor
