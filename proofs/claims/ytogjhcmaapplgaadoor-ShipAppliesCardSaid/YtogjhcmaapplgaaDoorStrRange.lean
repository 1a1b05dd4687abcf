/-
  A range over a map of the call's own from strings to strings.
-/
import Derived.Test.YtogjhcmaapplgaaDoorStrMap
import Derived.Maps.RangeWalk
import Derived.Sort.KeysCollected
namespace Go.Proofs.YtogjhcmaapplgaaDoor
open Go.RowKit Go.Deep Go.Maps Go.WideMaps

/-- block r ranges over the map in block b, which holds what f says; left: the keys that are to come -/
def RngS (P : Program) (k e : TypeId) (w : World) (b r n : Nat) (f : List UInt8 → Option (List UInt8)) (left : List UInt8 → Bool) (cnt : Nat) : Prop :=
  ∃ (D : DataW Unit) (lf : Lit → Bool), w.ranges P k (plainElem P e) b r n D lf cnt ∧ (∀ s z, D.atKey (.string s) z = atL Lit.string (f s) z) ∧ ∀ s, lf (.string s) = left s

section
variable {P : Program} {k e : TypeId} {w : World} {b r n cnt : Nat} {f : List UInt8 → Option (List UInt8)} {left : List UInt8 → Bool}
theorem RngS.kept {w' : World} {row : Option Nat} (h : RngS P k e w b r n f left cnt) (hg : w.grownBy w' row) (hb : some b ≠ row) (hr : some r ≠ row) : RngS P k e w' b r n f left cnt := by
  obtain ⟨D, lf, h1, h2, h3⟩ := h
  exact ⟨D, lf, h1.kept hg hb hr, h2, h3⟩
theorem RngS.alloc (h : RngS P k e w b r n f left cnt) (o : Obj) : RngS P k e (w.alloc o) b r n f left cnt := h.kept (World.grownBy_alloc w o none) (by simp) (by simp)
theorem RngS.lt (h : RngS P k e w b r n f left cnt) : r < w.heap.size := by obtain ⟨D, lf, h1, _⟩ := h; exact h1.lt
theorem RngS.owns (h : RngS P k e w b r n f left cnt) : SMap P k e w b n f := by obtain ⟨D, lf, h1, h2, _⟩ := h; exact ⟨D, h1.owns, h2⟩
theorem RngS.left_eq (h : RngS P k e w b r n f left cnt) : w.rangeLeft b r = cnt := by obtain ⟨D, lf, h1, _⟩ := h; exact h1.left_eq
end

section
variable {P : Program} {k e : TypeId} {w : World} {b n : Nat} {f : List UInt8 → Option (List UInt8)} {ops : Array Oper} {rest : List Oper} {o : Oper} {a : Act} {Q : Exit → Act → World → Prop}
theorem wpList_rangeS (hg : o.guard = none) (m : Operand) (t : TypeId) (hop : o.op = Op.range t m) (hk : P.underlying k = some .string) (ht : P.underlying t = some (.map k e)) (hm : a.eval m = .map (some b)) (h : SMap P k e w b n f)
    (hK : ∀ w' cnt, RngS P k e w' b w.heap.size n f (fun s => (f s).isSome) cnt → cnt ≤ n → w.grownBy w' none → w'.heap.size = w.heap.size + 1 → wpList P ops Q rest (a.put o.dst (.pointer (some ⟨w.heap.size, 0, none⟩))) w') : wpList P ops Q (o :: rest) a w := by
  obtain ⟨D, h1, h2⟩ := h
  refine wpList_range_own w hg m t hop k e (string_keyed hk) ht (plainElem P e) b n D hm h1 (fun w' hr hgr hs => hK w' _ ⟨D, _, hr, h2, fun s => ?_⟩ h1.size_le hgr hs)
  show Maps.has D (.string s) = (f s).isSome
  cases hf : f s with
  | none => exact Maps.has_false_of_atKey (fun z => by rw [h2, hf]; rfl)
  | some x => exact Maps.has_true_of_atKey (y := .lit (.string x)) (fun z => by rw [h2, hf]; rfl)
theorem wpList_nextS (hg : o.guard = none) (it : Operand) (hop : o.op = Op.next it false) (hk : P.underlying k = some .string) (he : P.underlying e = some .string) (r cnt : Nat) (left : List UInt8 → Bool) (hit : a.eval it = .pointer (some ⟨r, 0, none⟩)) (h : RngS P k e w b r n f left cnt)
    (hDone : cnt = 0 → (∀ s, left s = false) → wpList P ops Q rest (a.put o.dst (.tuple #[.bool false])) w)
    (hMore : ∀ (x c : ByteArray) (w' : World) (cnt' : Nat), x.size ≤ maxLen → left x.data.toList = true → f x.data.toList = some c.data.toList → RngS P k e w' b r n f (fun s => left s && !(s == x.data.toList)) cnt' → cnt' < cnt →
      w.grownBy w' (some r) → w'.heap.size = w.heap.size → (Instr.entry (.pointer (some ⟨r, 0, none⟩))).run P w' = .ok (.tuple #[.string x, .string c]) w' → wpList P ops Q rest (a.put o.dst (.tuple #[.bool true, .string x, .string c])) w') : wpList P ops Q (o :: rest) a w := by
  obtain ⟨D, lf, h1, h2, h3⟩ := h
  have invK : ∀ key kl, keyOf P k key = some kl → ∃ x : ByteArray, key = Value.string x := by
    intro key kl hkey
    obtain ⟨x, hx, _, _⟩ := Maps.keyOf_str hk hkey
    exact ⟨⟨x.toArray⟩, hx⟩
  refine wpList_next_ranges w hg it hop k (string_keyed hk) (plainElem P e) Value.string Value.string invK (fun v y hv => by obtain ⟨c, rfl, _⟩ := plainElem_string_inv he hv; exact ⟨c, rfl⟩)
    b r n D lf cnt hit h1 (fun h0 hl => hDone h0 (fun s => by rw [← h3]; exact hl _)) (fun x c kl y w' cnt' hkey hlk hv hat hrg hlt hgr hsz hen => ?_)
  obtain ⟨x', hx', rfl, hxl⟩ := Maps.keyOf_str hk hkey
  have hxe : x.data.toList = x' := by
    have h5 : x = ⟨x'.toArray⟩ := by simpa using hx'
    rw [h5]
  obtain ⟨c', hc', rfl, hcl⟩ := plainElem_string_inv he hv
  have hce : c = c' := by simpa using hc'
  subst hce
  have hf : f x' = some c.data.toList := by
    cases hf : f x' with
    | none =>
      have h6 := hat .nil
      rw [h2, hf] at h6
      cases h6
    | some z =>
      have h6 := hat .nil
      rw [h2, hf] at h6
      simp only [atL, DataW.lit.injEq, Lit.string.injEq] at h6
      rw [h6]
  have hxs : x.size ≤ maxLen := by
    have h9 : x.size = x.data.toList.length := by rw [Array.length_toList]; rfl
    rw [h9, hxe]; exact hxl
  refine hMore x c w' cnt' hxs (by rw [← h3, hxe]; exact hlk) (by rw [hxe]; exact hf) ⟨D, _, hrg, h2, fun s => ?_⟩ hlt hgr hsz hen
  rw [h3, hxe]
  rfl
end

end Go.Proofs.YtogjhcmaapplgaaDoor
