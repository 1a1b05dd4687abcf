/-
  A map of the call's own from strings to whatever values: the guarded look-up, and a range over it.
-/
import Derived.Test.YtmcelgokchhpfaaGreatDoorMapV
import Derived.Maps.RangeWalk
import Derived.Sort.KeysCollected
namespace Go.Proofs.YtmcelgokchhpfaaGreatDoor
open Go.RowKit Go.Deep Go.Maps Go.WideMaps

section
variable {P : Program} {k e : TypeId} {w : World} {b n : Nat} {f : List UInt8 → Option Value}
theorem VMap.has_eq {D : DataW Value} (h2 : ∀ s z, D.atKey (.string s) z = atV (f s) z) (s : List UInt8) : Maps.has D (.string s) = (f s).isSome := by
  cases hf : f s with
  | none => exact Maps.has_false_of_atKey (fun z => by rw [h2, hf]; rfl)
  | some a => exact Maps.has_true_of_atKey (y := .held a) (fun z => by rw [h2, hf]; rfl)
theorem VMap.look_ok {t : TypeId} (h : VMap P k w b n f) (hk : P.underlying k = some .string) (ht : P.underlying t = some (.map k e)) {s : ByteArray} (hs : s.size ≤ maxLen) {z : Value} (hz : (zeroValue e).run P w = .ok z w) :
    (Instr.lookup t (.map (some b)) (.string s) true).run P w = .ok (.tuple #[(f s.data.toList).getD z, .bool (f s.data.toList).isSome]) w := by
  obtain ⟨D, h, h2⟩ := h
  obtain ⟨v, ps, h3, h4⟩ := h.look_ok (string_keyed hk) ht hz (show rawE z = some (.held z, []) from rfl) (keyOf_string_mk hk hs)
  have h5 : rawE v = some (.held v, []) := rfl
  rw [h5, h2] at h4
  rw [h3, VMap.has_eq h2]
  cases hf : f s.data.toList with
  | none => rw [hf] at h4; simp [atV] at h4; rw [h4.1]; rfl
  | some a => rw [hf] at h4; simp [atV] at h4; rw [h4.1]; rfl
end

/-- block r ranges over the map in block b, which holds what f says; left: the keys that are to come -/
def RngV (P : Program) (k : TypeId) (w : World) (b r n : Nat) (f : List UInt8 → Option Value) (left : List UInt8 → Bool) (cnt : Nat) : Prop :=
  ∃ (D : DataW Value) (lf : Lit → Bool), w.ranges P k rawE b r n D lf cnt ∧ (∀ s z, D.atKey (.string s) z = atV (f s) z) ∧ ∀ s, lf (.string s) = left s

section
variable {P : Program} {k : TypeId} {w : World} {b r n cnt : Nat} {f : List UInt8 → Option Value} {left : List UInt8 → Bool}
theorem RngV.kept {w' : World} {row : Option Nat} (h : RngV P k w b r n f left cnt) (hg : w.grownBy w' row) (hb : some b ≠ row) (hr : some r ≠ row) : RngV P k w' b r n f left cnt := by
  obtain ⟨D, lf, h1, h2, h3⟩ := h
  exact ⟨D, lf, h1.kept hg hb hr, h2, h3⟩
theorem RngV.alloc (h : RngV P k w b r n f left cnt) (o : Obj) : RngV P k (w.alloc o) b r n f left cnt := h.kept (World.grownBy_alloc w o none) (by simp) (by simp)
theorem RngV.lt (h : RngV P k w b r n f left cnt) : r < w.heap.size := by obtain ⟨D, lf, h1, _⟩ := h; exact h1.lt
theorem RngV.owns (h : RngV P k w b r n f left cnt) : VMap P k w b n f := by obtain ⟨D, lf, h1, h2, _⟩ := h; exact ⟨D, h1.owns, h2⟩
theorem RngV.left_eq (h : RngV P k w b r n f left cnt) : w.rangeLeft b r = cnt := by obtain ⟨D, lf, h1, _⟩ := h; exact h1.left_eq
theorem RngV.below {w' : World} (h : RngV P k w b r n f left cnt) (hb : Below w.heap.size w w') : RngV P k w' b r n f left cnt :=
  h.kept (row := none) ⟨hb.os, hb.tape, hb.output, hb.size, fun x hx _ => hb.block x hx⟩ (by simp) (by simp)
end

section
variable {P : Program} {k e : TypeId} {w : World} {b n : Nat} {f : List UInt8 → Option Value} {ops : Array Oper} {rest : List Oper} {o : Oper} {a : Act} {Q : Exit → Act → World → Prop}
theorem wpList_rangeV (hg : o.guard = none) (m : Operand) (t : TypeId) (hop : o.op = Op.range t m) (hk : P.underlying k = some .string) (ht : P.underlying t = some (.map k e)) (hm : a.eval m = .map (some b)) (h : VMap P k w b n f)
    (hK : ∀ w' cnt, RngV P k w' b w.heap.size n f (fun s => (f s).isSome) cnt → cnt ≤ n → w.grownBy w' none → w'.heap.size = w.heap.size + 1 → wpList P ops Q rest (a.put o.dst (.pointer (some ⟨w.heap.size, 0, none⟩))) w') : wpList P ops Q (o :: rest) a w := by
  obtain ⟨D, h1, h2⟩ := h
  exact wpList_range_own w hg m t hop k e (string_keyed hk) ht rawE b n D hm h1 (fun w' hr hgr hs => hK w' _ ⟨D, _, hr, h2, fun s => VMap.has_eq h2 s⟩ h1.size_le hgr hs)
theorem wpList_nextV (hg : o.guard = none) (it : Operand) (hop : o.op = Op.next it false) (hk : P.underlying k = some .string) (r cnt : Nat) (left : List UInt8 → Bool) (hit : a.eval it = .pointer (some ⟨r, 0, none⟩)) (h : RngV P k w b r n f left cnt)
    (hDone : cnt = 0 → (∀ s, left s = false) → wpList P ops Q rest (a.put o.dst (.tuple #[.bool false])) w)
    (hMore : ∀ (x : ByteArray) (c : Value) (w' : World) (cnt' : Nat), x.size ≤ maxLen → left x.data.toList = true → f x.data.toList = some c → RngV P k w' b r n f (fun s => left s && !(s == x.data.toList)) cnt' → cnt' < cnt →
      w.grownBy w' (some r) → w'.heap.size = w.heap.size → (Instr.entry (.pointer (some ⟨r, 0, none⟩))).run P w' = .ok (.tuple #[.string x, c]) w' → wpList P ops Q rest (a.put o.dst (.tuple #[.bool true, .string x, c])) w') : wpList P ops Q (o :: rest) a w := by
  obtain ⟨D, lf, h1, h2, h3⟩ := h
  have invK : ∀ key kl, keyOf P k key = some kl → ∃ x : ByteArray, key = Value.string x := by
    intro key kl hkey
    obtain ⟨x, hx, _, _⟩ := Maps.keyOf_str hk hkey
    exact ⟨⟨x.toArray⟩, hx⟩
  refine wpList_next_ranges w hg it hop k (string_keyed hk) rawE Value.string (fun v : Value => v) invK (fun v y _ => ⟨v, rfl⟩)
    b r n D lf cnt hit h1 (fun h0 hl => hDone h0 (fun s => by rw [← h3]; exact hl _)) (fun x c kl y w' cnt' hkey hlk hv hat hrg hlt hgr hsz hen => ?_)
  obtain ⟨x', hx', rfl, hxl⟩ := Maps.keyOf_str hk hkey
  have hxe : x.data.toList = x' := by
    have h5 : x = ⟨x'.toArray⟩ := by simpa using hx'
    rw [h5]
  have hy : y = (.held c, []) := (Option.some.inj hv).symm
  subst hy
  have hf : f x' = some c := by
    cases hf : f x' with
    | none =>
      have h6 := hat .nil
      rw [h2, hf] at h6
      cases h6
    | some z =>
      have h6 := hat .nil
      rw [h2, hf] at h6
      simp only [atV, DataW.held.injEq] at h6
      rw [h6]
  have hxs : x.size ≤ maxLen := by
    have h9 : x.size = x.data.toList.length := by rw [Array.length_toList]; rfl
    rw [h9, hxe]; exact hxl
  refine hMore x c w' cnt' hxs (by rw [← h3, hxe]; exact hlk) (by rw [hxe]; exact hf) ⟨D, _, hrg, h2, fun s => ?_⟩ hlt hgr hsz hen
  rw [h3, hxe]
  rfl
end

end Go.Proofs.YtmcelgokchhpfaaGreatDoor
