/-
  Maps of the call's own that are keyed by strings and hold whatever values, as functions of the key.
-/
import Derived.Test.YtmcelgokchhpfaaGreatDoorStrMap
namespace Go.Proofs.YtmcelgokchhpfaaGreatDoor
open Go.RowKit Go.Deep Go.Maps Go.WideMaps

/-- a value reads as itself -/
def rawE (v : Value) : Option (DataW Value × List MemPlace) := some (.held v, [])
def atV (o : Option Value) (z : DataW Value) : DataW Value := match o with | some a => .held a | none => z
/-- block b is a map of at most n entries, keyed by strings, that holds what f says -/
def VMap (P : Program) (k : TypeId) (w : World) (b n : Nat) (f : List UInt8 → Option Value) : Prop :=
  ∃ D : DataW Value, w.ownsMap P k rawE b n D ∧ ∀ s z, D.atKey (.string s) z = atV (f s) z

section
variable {P : Program} {k e : TypeId} {w : World} {b n : Nat} {f : List UInt8 → Option Value}
theorem vmap_made (w : World) : VMap P k (w.alloc (.map #[] 0)) w.heap.size 0 (fun _ => none) := ⟨_, World.ownsMap_made w P k rawE, fun _ _ => rfl⟩
theorem VMap.lt (h : VMap P k w b n f) : b < w.heap.size := by obtain ⟨D, h, _⟩ := h; exact h.lt
theorem VMap.mono (h : VMap P k w b n f) {n' : Nat} (hn : n ≤ n') : VMap P k w b n' f := by obtain ⟨D, h, h2⟩ := h; exact ⟨D, h.mono hn, h2⟩
theorem VMap.kept {w' : World} {row : Option Nat} (h : VMap P k w b n f) (hg : w.grownBy w' row) (hne : some b ≠ row) : VMap P k w' b n f := by obtain ⟨D, h, h2⟩ := h; exact ⟨D, h.kept hg hne, h2⟩
theorem VMap.alloc (h : VMap P k w b n f) (o : Obj) : VMap P k (w.alloc o) b n f := by obtain ⟨D, h, h2⟩ := h; exact ⟨D, h.alloc o, h2⟩
theorem VMap.drew (h : VMap P k w b n f) : VMap P k w.drew b n f := h
theorem VMap.drewN (h : VMap P k w b n f) (q : Nat) : VMap P k (w.drewN q) b n f := h
theorem VMap.below {w' : World} (h : VMap P k w b n f) (hb : Below w.heap.size w w') : VMap P k w' b n f :=
  h.kept (row := none) ⟨hb.os, hb.tape, hb.output, hb.size, fun x hx _ => hb.block x hx⟩ (by simp)
theorem VMap.block (h : VMap P k w b n f) : ∃ es clock, w.heap[b]? = some (.map es clock) := by obtain ⟨D, ⟨es, clock, h, _⟩, _⟩ := h; exact ⟨es, clock, h⟩
theorem VMap.store {t : TypeId} (h : VMap P k w b n f) (hk : P.underlying k = some .string) (ht : P.underlying t = some (.map k e)) (hn : n < maxLen) {s : ByteArray} (hs : s.size ≤ maxLen) (val : Value) :
    ∃ w', (Instr.mapUpdate t (.map (some b)) (.string s) val).run P w = .ok () w' ∧ VMap P k w' b (n + 1) (putF f s.data.toList val) ∧ w.mapTurned w' b := by
  obtain ⟨D, h, h2⟩ := h
  obtain ⟨w', h3, h4, h5⟩ := h.store (string_keyed hk) ht hn (keyOf_string_mk hk hs) (show rawE val = some (.held val, []) from rfl)
  refine ⟨w', h3, ⟨_, h4, fun t z => ?_⟩, h5⟩
  by_cases hts : t = s.data.toList
  · rw [hts, atKey_put_same h.isMap (show WideAt.IsKeyLit (.string s.data.toList) from True.intro), putF_same]; rfl
  · rw [atKey_put_other (fun he => hts (by cases he; rfl)), putF_ne _ _ hts, h2]
theorem VMap.look {t : TypeId} (h : VMap P k w b n f) (hk : P.underlying k = some .string) (ht : P.underlying t = some (.map k e)) {s : ByteArray} (hs : s.size ≤ maxLen) {z : Value} (hz : (zeroValue e).run P w = .ok z w) :
    (Instr.lookup t (.map (some b)) (.string s) false).run P w = .ok ((f s.data.toList).getD z) w := by
  obtain ⟨D, h, h2⟩ := h
  obtain ⟨v, ps, h3, h4⟩ := h.lookup (string_keyed hk) ht hz (show rawE z = some (.held z, []) from rfl) (keyOf_string_mk hk hs)
  have h5 : rawE v = some (.held v, []) := rfl
  rw [h5, h2] at h4
  rw [h3]
  cases hf : f s.data.toList with
  | none => rw [hf] at h4; simp [atV] at h4; rw [h4.1]; rfl
  | some a => rw [hf] at h4; simp [atV] at h4; rw [h4.1]; rfl
end

section
variable {P : Program} {k e : TypeId} {w : World} {b n : Nat} {f : List UInt8 → Option Value} {ops : Array Oper} {rest : List Oper} {o : Oper} {a : Act} {Q : Exit → Act → World → Prop}
/-- m[k] = v, at the operation -/
theorem wpList_storeV (hg : o.guard = none) (m x v : Operand) (t : TypeId) (hop : o.op = Op.mapUpdate t m x v) (hk : P.underlying k = some .string) (ht : P.underlying t = some (.map k e)) (h : VMap P k w b n f) (hn : n < maxLen)
    (hm : a.eval m = .map (some b)) (s : ByteArray) (hs : s.size ≤ maxLen) (val : Value) (hx : a.eval x = .string s) (hv : a.eval v = val)
    (hK : ∀ w', VMap P k w' b (n + 1) (putF f s.data.toList val) → w.mapTurned w' b → wpList P ops Q rest (a.put o.dst undef) w') : wpList P ops Q (o :: rest) a w := by
  refine wpList_plain hg fun K' hK' => ?_
  obtain ⟨w', hrun, r1, r2⟩ := h.store hk ht hn hs val
  unfold Oper.wp
  simp [execOp, hop, hm, hx, hv, hrun, Result.andThen]
  exact hK' _ _ (hK w' r1 r2)
end

end Go.Proofs.YtmcelgokchhpfaaGreatDoor
