/-
  Tokens as they lie in rows of the call's own; the scanner's box.
-/
import Derived.Test.YtbhildmalcfhiaaGreatDoorTokPlain
import Derived.Test.YtbhildmalcfhiaaGreatDoorBox
import Derived.Test.YtbhildmalcfhiaaGreatDoorRowOps
import Derived.Deep.RegionLaw
import Derived.BigQuiet
import Derived.Deep.QuietTactic
import Derived.RegionTactic
import Derived.Laws.Strings2
import Derived.Deep.DeepMust
namespace Go.Proofs.YtbhildmalcfhiaaGreatDoor
open Go.RowKit Go.Deep

/-- memory has grown, and of what was there no block has turned but those of p -/
structure GrownX (p : Nat → Prop) (w w' : World) : Prop where
  os : w'.os = w.os
  tape : w'.tape = w.tape
  output : w'.output = w.output
  size : w.heap.size ≤ w'.heap.size
  block : ∀ k, k < w.heap.size → ¬ p k → w'.heap[k]? = w.heap[k]?
theorem GrownX.refl (p : Nat → Prop) (w : World) : GrownX p w w := ⟨rfl, rfl, rfl, Nat.le_refl _, fun _ _ _ => rfl⟩
theorem GrownX.trans {p : Nat → Prop} {a b c : World} (h : GrownX p a b) (k : GrownX p b c) : GrownX p a c :=
  ⟨k.os.trans h.os, k.tape.trans h.tape, k.output.trans h.output, Nat.le_trans h.size k.size, fun x hx hp => (k.block x (Nat.lt_of_lt_of_le hx h.size) hp).trans (h.block x hx hp)⟩
/-- blocks that are new in the middle may be turned behind it -/
theorem GrownX.trans2 {p q : Nat → Prop} {a b c : World} (h : GrownX p a b) (k : GrownX q b c) (hq : ∀ x, x < a.heap.size → q x → p x) : GrownX p a c :=
  ⟨k.os.trans h.os, k.tape.trans h.tape, k.output.trans h.output, Nat.le_trans h.size k.size, fun x hx hp => (k.block x (Nat.lt_of_lt_of_le hx h.size) (fun e => hp (hq x hx e))).trans (h.block x hx hp)⟩
theorem GrownX.mono {p q : Nat → Prop} {a b : World} (h : GrownX p a b) (hq : ∀ x, x < a.heap.size → p x → q x) : GrownX q a b :=
  ⟨h.os, h.tape, h.output, h.size, fun x hx hp => h.block x hx (fun e => hp (hq x hx e))⟩
theorem GrownX.of_below {p : Nat → Prop} {a b : World} (h : Below a.heap.size a b) : GrownX p a b := ⟨h.os, h.tape, h.output, h.size, fun x hx _ => h.block x hx⟩
theorem GrownX.of_grown {p : Nat → Prop} {a b : World} {r : Option Nat} (h : a.grownBy b r) (hr : ∀ g, r = some g → p g) : GrownX p a b := ⟨h.os, h.tape, h.output, h.size, fun x hx hp => h.block x hx (fun e => hp (hr x e.symm))⟩
theorem GrownX.below {p : Nat → Prop} {a b : World} {B : Nat} (h : GrownX p a b) (hB : B ≤ a.heap.size) (hp : ∀ x, p x → B ≤ x) : Below B a b := ⟨h.os, h.tape, h.output, h.size, fun x hx => h.block x (Nat.lt_of_lt_of_le hx hB) (fun e => by have := hp x e; omega)⟩
theorem GrownX.drew {p : Nat → Prop} {a b : World} (h : GrownX p a b) : GrownX p a b.drew := ⟨h.os, h.tape, h.output, h.size, h.block⟩
theorem GrownX.drewN {p : Nat → Prop} {a b : World} (h : GrownX p a b) (n : Nat) : GrownX p a (b.drewN n) := ⟨h.os, h.tape, h.output, h.size, h.block⟩
theorem GrownX.alloc {p : Nat → Prop} {a b : World} (h : GrownX p a b) (o : Obj) : GrownX p a (b.alloc o) := h.trans (.of_below ((Below.refl _ _).alloc (Nat.le_refl _) o))
theorem GrownX.set {p : Nat → Prop} {a b : World} (h : GrownX p a b) {n : Nat} (hn : p n ∨ a.heap.size ≤ n) (o : Nat) (v : Value) : GrownX p a (b.setCell ⟨n, o, none⟩ v) :=
  h.trans2 (GrownX.of_grown (p := fun x => x = n) (grown_setB b n o v) (fun g hg => (Option.some.inj hg).symm)) (fun x hx e => by
    subst e
    rcases hn with hn | hn
    · exact hn
    · omega)
theorem GrownX.one (w : World) (n k o : Nat) (v : Value) : GrownX (fun x => x = n) w ((w.drewN k).setCell ⟨n, o, none⟩ v) := GrownX.set ((GrownX.refl (fun x => x = n) w).drewN k) (Or.inl rfl) o v
theorem GrownX.one0 (w : World) (n o : Nat) (v : Value) : GrownX (fun x => x = n) w (w.setCell ⟨n, o, none⟩ v) := GrownX.set (GrownX.refl (fun x => x = n) w) (Or.inl rfl) o v
theorem CB.keepX {w w' : World} {n : Nat} {t : TypeId} {cs : Array Value} {p : Nat → Prop} (h : CB w n t cs) (k : GrownX p w w') (hn : ¬ p n) : CB w' n t cs := (k.block n h.lt hn).trans h
theorem own_keepX {w w' : World} {B K n : Nat} {e : TypeId} {v : Value} {xs : List Value} {p : Nat → Prop} (h : w.ownsRow B e K v n xs) (k : GrownX p w w') (hp : ∀ g, v.ownBlock = some g → ¬ p g) : w'.ownsRow B e K v n xs := by
  obtain ⟨hl, h2⟩ := h
  refine ⟨hl, ?_⟩
  rcases h2 with h2 | ⟨g, cap, cur, h1, h3, h4, h5⟩
  · exact Or.inl h2
  · refine Or.inr ⟨g, cap, cur, h1, h3, ?_, h5⟩
    have hlt : g < w.heap.size := (Array.getElem?_eq_some_iff.1 h4).1
    rw [k.block g hlt (hp g (by rw [h1]; rfl))]
    exact h4

/-- a world that has grown out of W: the class of worlds for a region whose operations read and whose calls make memory (wp_region_quiet) -/
structure Gr (W : World) where
  w : World
  h : Below W.heap.size W w
theorem Gr.calls {P : Program} {W : World} {q : Gr W} {f : FuncId} {args : Array Value} {v : Value} (h : Calls P f args q.w fun e w' => e = .returned v ∧ Below q.w.heap.size q.w w') : Calls P f args q.w fun e w'' => e = .returned v ∧ ∃ q' : Gr W, w'' = q'.w :=
  h.mono fun _ w2 ⟨h1, h2⟩ => ⟨h1, ⟨w2, q.h.trans (h2.mono q.h.size)⟩, rfl⟩
theorem Gr.same {P : Program} {W : World} {q : Gr W} {f : FuncId} {args : Array Value} {v : Value} (h : Calls P f args q.w fun e w' => e = .returned v ∧ q.w = w') : Calls P f args q.w fun e w'' => e = .returned v ∧ ∃ q' : Gr W, w'' = q'.w :=
  h.mono fun _ _ ⟨h1, h2⟩ => ⟨h1, q, h2.symm⟩

def attCells (l : List AttrR) : List Value := l.flatMap fun a => [.string a.name, .string a.value]
theorem attCells_snoc (l : List AttrR) (a : AttrR) : attCells (l ++ [a]) = attCells l ++ [.string a.name, .string a.value] := by simp [attCells]
def tokRow (x : TokR × Value) : List Value := [.int .i64 x.1.kind, .int .i64 (x.1.at_ : Int), .string x.1.name, .string x.1.text, x.2]
def tokCells (L : List (TokR × Value)) : List Value := L.flatMap tokRow
theorem tokCells_snoc (L : List (TokR × Value)) (x : TokR × Value) : tokCells (L ++ [x]) = tokCells L ++ tokRow x := by simp [tokCells]

/-- tokens in a row of the call's own -/
structure ToksOwn (w : World) (B : Nat) (ov : Value) (L : List (TokR × Value)) : Prop where
  row : w.ownsRow B 56 5 ov L.length (tokCells L)
  att : ∀ x ∈ L, w.ownsRow B 68 2 x.2 x.1.atts.length (attCells x.1.atts)
theorem ToksOwn.start (w : World) (B : Nat) : ToksOwn w B (.slice none 0 0) [] := ⟨World.ownsRow_nil w B _ 5, fun x h => by cases h⟩
theorem ToksOwn.keepX {w w' : World} {B : Nat} {ov : Value} {L : List (TokR × Value)} {p : Nat → Prop} (h : ToksOwn w B ov L) (k : GrownX p w w') (hp : ∀ g, ov.ownBlock = some g → ¬ p g) (ha : ∀ g, p g → ∀ (cs : Array Value) (fz : Nat × Nat), w.heap[g]? ≠ some (.cells cs 68 fz)) : ToksOwn w' B ov L :=
  ⟨own_keepX h.row k hp, fun x hx => own_keepX (h.att x hx) k (fun g hg hpg => by
    rcases (h.att x hx).2 with ⟨h1, _⟩ | ⟨g', cap, cur, h1, _, h4, _⟩
    · rw [h1] at hg; cases hg
    · rw [h1] at hg
      simp only [Value.ownBlock, Option.some.injEq] at hg
      subst hg
      exact ha g' hpg _ _ h4)⟩
theorem ToksOwn.below {w w' : World} {B : Nat} {ov : Value} {L : List (TokR × Value)} (h : ToksOwn w B ov L) (hb : Below w.heap.size w w') : ToksOwn w' B ov L :=
  h.keepX (GrownX.of_below (p := fun _ => False) hb) (fun _ _ h => h) (fun _ h => h.elim)
theorem ToksOwn.drew {w : World} {B : Nat} {ov : Value} {L : List (TokR × Value)} (h : ToksOwn w B ov L) : ToksOwn w.drew B ov L := h.below (Below.refl _ _).drew
theorem ToksOwn.alloc {w : World} {B : Nat} {ov : Value} {L : List (TokR × Value)} (h : ToksOwn w B ov L) (o : Obj) : ToksOwn (w.alloc o) B ov L := h.below ((Below.refl _ _).alloc (Nat.le_refl _) o)
theorem ToksOwn.len {w : World} {B : Nat} {ov : Value} {L : List (TokR × Value)} (h : ToksOwn w B ov L) : ∃ A c, ov = .slice A L.length c := by
  obtain ⟨A, c, h1, _⟩ := own_form h.row
  exact ⟨A, c, h1⟩
/-- a box is written -/
theorem ToksOwn.box {w : World} {B b o : Nat} {ov : Value} {L : List (TokR × Value)} {t : TypeId} {cs : Array Value} (h : ToksOwn w B ov L) (hc : CB w b t cs) (hT : ov.ownBlock ≠ some b) (hA : t ≠ 68) (v : Value) : ToksOwn (w.setCell ⟨b, o, none⟩ v) B ov L :=
  h.keepX (GrownX.of_grown (p := fun x => x = b) (grown_setB w b o v) (fun g hg => (Option.some.inj hg).symm)) (fun g hg e => hT (by rw [hg, e])) (fun g e cs' fz hc' => by
    subst e
    rw [show w.heap[g]? = _ from hc] at hc'
    cases hc'
    exact hA rfl)
theorem ToksOwn.push {w w' : World} {B : Nat} {ov ov' : Value} {L : List (TokR × Value)} (h : ToksOwn w B ov L) (x : TokR × Value) (hx : w.ownsRow B 68 2 x.2 x.1.atts.length (attCells x.1.atts))
    (hg : w.grownBy w' ov.ownBlock) (ho : w'.ownsRow B 56 5 ov' (L.length + 1) (tokCells L ++ tokRow x)) : ToksOwn w' B ov' (L ++ [x]) := by
  have hr : ∀ {v : Value} {n : Nat} {xs : List Value}, w.ownsRow B 68 2 v n xs → w'.ownsRow B 68 2 v n xs := by
    intro v n xs h1
    refine h1.kept hg ?_
    rcases h1.2 with ⟨rfl, _⟩ | ⟨g, cap, cur, rfl, _, hgc, _⟩
    · exact Or.inl rfl
    · refine Or.inr (fun e => ?_)
      rcases h.row.2 with ⟨h5, _⟩ | ⟨g', cap', cur', h5, _, hgc', _⟩
      · rw [h5] at e; cases e
      · rw [h5] at e
        simp only [Value.ownBlock, Option.some.injEq] at e
        subst e
        rw [hgc] at hgc'
        simp at hgc'
  refine ⟨by rw [tokCells_snoc, List.length_append]; exact ho, fun y hy => ?_⟩
  rcases List.mem_append.1 hy with h1 | h1
  · exact hr (h.att y h1)
  · simp at h1; subst h1; exact hr hx

/-- the scanner -/
def ScanAt (w : World) (bx : Nat) (s : ByteArray) (i : Nat) (ov : Value) : Prop := CB w bx 97 #[.string s, .int .i64 (i : Int), ov]

end Go.Proofs.YtbhildmalcfhiaaGreatDoor
