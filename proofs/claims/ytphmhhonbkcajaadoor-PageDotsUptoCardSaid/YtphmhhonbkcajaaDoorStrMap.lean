/-
  Maps of the call's own that are keyed by strings, as functions of the key.
-/
import Derived.Test.YtphmhhonbkcajaaDoorBase
import Derived.Maps.OwnSet
import Derived.Maps.OwnOps
import Derived.Maps.Ext
import Derived.Maps.StringElems
namespace Go.Proofs.YtphmhhonbkcajaaDoor
open Go.RowKit Go.Deep Go.Maps Go.WideMaps

def str0 (l : List UInt8) : ByteArray := ⟨l.toArray⟩
theorem str0_of (s : ByteArray) : str0 s.data.toList = s := rfl
theorem str0_list (l : List UInt8) : (str0 l).data.toList = l := rfl

/-- what a look-up reads as -/
def atL {α : Type} (lit : α → Lit) (o : Option α) (z : DataW Unit) : DataW Unit := match o with | some a => .lit (lit a) | none => z
/-- block b is a map of at most n entries, keyed by strings, that holds what f says -/
def MapR {α : Type} (lit : α → Lit) (P : Program) (k e : TypeId) (w : World) (b n : Nat) (f : List UInt8 → Option α) : Prop :=
  ∃ D : DataW Unit, w.ownsMap P k (plainElem P e) b n D ∧ ∀ s z, D.atKey (.string s) z = atL lit (f s) z
abbrev SMap (P : Program) (k e : TypeId) := MapR (α := List UInt8) Lit.string P k e
abbrev BMap (P : Program) (k e : TypeId) := MapR (α := Bool) Lit.bool P k e
abbrev IMap (P : Program) (k e : TypeId) := MapR (α := Int) (Lit.int .i64) P k e

def putF {α : Type} (f : List UInt8 → Option α) (s : List UInt8) (a : α) : List UInt8 → Option α := fun t => if t = s then some a else f t
def delF {α : Type} (f : List UInt8 → Option α) (s : List UInt8) : List UInt8 → Option α := fun t => if t = s then none else f t
theorem putF_same {α : Type} (f : List UInt8 → Option α) (s : List UInt8) (a : α) : putF f s a s = some a := if_pos rfl
theorem putF_ne {α : Type} (f : List UInt8 → Option α) {s t : List UInt8} (a : α) (h : t ≠ s) : putF f s a t = f t := if_neg h

section
variable {α : Type} {lit : α → Lit} {P : Program} {k e : TypeId} {w : World} {b n : Nat} {f : List UInt8 → Option α}

theorem mapR_made (w : World) : MapR lit P k e (w.alloc (.map #[] 0)) w.heap.size 0 (fun _ => none) :=
  ⟨_, World.ownsMap_made w P k (plainElem P e), fun _ _ => rfl⟩
theorem MapR.lt (h : MapR lit P k e w b n f) : b < w.heap.size := by obtain ⟨D, h, _⟩ := h; exact h.lt
theorem MapR.mono (h : MapR lit P k e w b n f) {n' : Nat} (hn : n ≤ n') : MapR lit P k e w b n' f := by obtain ⟨D, h, h2⟩ := h; exact ⟨D, h.mono hn, h2⟩
theorem MapR.kept {w' : World} {row : Option Nat} (h : MapR lit P k e w b n f) (hg : w.grownBy w' row) (hne : some b ≠ row) : MapR lit P k e w' b n f := by obtain ⟨D, h, h2⟩ := h; exact ⟨D, h.kept hg hne, h2⟩
theorem MapR.alloc (h : MapR lit P k e w b n f) (o : Obj) : MapR lit P k e (w.alloc o) b n f := by obtain ⟨D, h, h2⟩ := h; exact ⟨D, h.alloc o, h2⟩
theorem MapR.drew (h : MapR lit P k e w b n f) : MapR lit P k e w.drew b n f := h
theorem MapR.setCell (h : MapR lit P k e w b n f) {a : Addr} (ha : b ≠ a.block) (u : Value) : MapR lit P k e (w.setCell a u) b n f := by obtain ⟨D, h, h2⟩ := h; exact ⟨D, h.setCell ha u, h2⟩
theorem MapR.below {w' : World} (h : MapR lit P k e w b n f) (hb : Below w.heap.size w w') : MapR lit P k e w' b n f :=
  h.kept (row := none) ⟨hb.os, hb.tape, hb.output, hb.size, fun x hx _ => hb.block x hx⟩ (by simp)
theorem MapR.block (h : MapR lit P k e w b n f) : ∃ es clock, w.heap[b]? = some (.map es clock) := by obtain ⟨D, ⟨es, clock, h, _⟩, _⟩ := h; exact ⟨es, clock, h⟩

/-- m[k] = v -/
theorem MapR.store {t : TypeId} (h : MapR lit P k e w b n f) (hk : P.underlying k = some .string) (ht : P.underlying t = some (.map k e)) (hn : n < maxLen) {s : ByteArray} (hs : s.size ≤ maxLen) {val : Value} {a : α} (hv : plainElem (H := Unit) P e val = some (.lit (lit a), [])) :
    ∃ w', (Instr.mapUpdate t (.map (some b)) (.string s) val).run P w = .ok () w' ∧ MapR lit P k e w' b (n + 1) (putF f s.data.toList a) ∧ w.mapTurned w' b := by
  obtain ⟨D, h, h2⟩ := h
  obtain ⟨w', h3, h4, h5⟩ := h.store (string_keyed hk) ht hn (keyOf_string_mk hk hs) hv
  refine ⟨w', h3, ⟨_, h4, fun t z => ?_⟩, h5⟩
  by_cases hts : t = s.data.toList
  · rw [hts, atKey_put_same h.isMap (show WideAt.IsKeyLit (.string s.data.toList) from True.intro), putF_same]; rfl
  · rw [atKey_put_other (fun he => hts (by cases he; rfl)), putF_ne _ _ hts, h2]
/-- delete(m, k) -/
theorem MapR.drop {t : TypeId} (h : MapR lit P k e w b n f) (hk : P.underlying k = some .string) (ht : P.underlying t = some (.map k e)) {s : ByteArray} (hs : s.size ≤ maxLen) (ty : TypeId) :
    ∃ w', (Builtin.delete_ #[t, k] ty #[.map (some b), .string s]).run P w = .ok (.tuple #[]) w' ∧ MapR lit P k e w' b n (delF f s.data.toList) ∧ w.mapTurned w' b := by
  obtain ⟨D, h, h2⟩ := h
  obtain ⟨w', h3, h4, h5⟩ := h.drop (string_keyed hk) ht (keyOf_string_mk hk hs) ty
  refine ⟨w', h3, ⟨_, h4, fun t z => ?_⟩, h5⟩
  by_cases hts : t = s.data.toList
  · rw [hts, atKey_del_same, delF, if_pos rfl]; rfl
  · rw [atKey_del_other (fun he => hts (by cases he; rfl)), delF, if_neg hts, h2]
/-- v, ok := m[k] -/
theorem MapR.look_ok {t : TypeId} (h : MapR lit P k e w b n f) (hk : P.underlying k = some .string) (ht : P.underlying t = some (.map k e)) {s : ByteArray} (hs : s.size ≤ maxLen) {z : Value} (hz : (zeroValue e).run P w = .ok z w) {zd : DataW Unit} (hzd : plainElem (H := Unit) P e z = some (zd, [])) :
    ∃ v, (Instr.lookup t (.map (some b)) (.string s) true).run P w = .ok (.tuple #[v, .bool (f s.data.toList).isSome]) w ∧ plainElem (H := Unit) P e v = some (atL lit (f s.data.toList) zd, []) := by
  obtain ⟨D, h, h2⟩ := h
  obtain ⟨v, ps, h3, h4⟩ := h.look_ok (string_keyed hk) ht hz hzd (keyOf_string_mk hk hs)
  have hhas : Maps.has D (.string s.data.toList) = (f s.data.toList).isSome := by
    cases hf : f s.data.toList with
    | none => exact Maps.has_false_of_atKey (fun z => by rw [h2, hf]; rfl)
    | some a => exact Maps.has_true_of_atKey (y := .lit (lit a)) (fun z => by rw [h2, hf]; rfl)
  refine ⟨v, by rw [h3, hhas], ?_⟩
  have hp := plainElem_places h4
  simp only at hp
  subst hp
  rw [h4, h2]
theorem MapR.look {t : TypeId} (h : MapR lit P k e w b n f) (hk : P.underlying k = some .string) (ht : P.underlying t = some (.map k e)) {s : ByteArray} (hs : s.size ≤ maxLen) {z : Value} (hz : (zeroValue e).run P w = .ok z w) {zd : DataW Unit} (hzd : plainElem (H := Unit) P e z = some (zd, [])) :
    ∃ v, (Instr.lookup t (.map (some b)) (.string s) false).run P w = .ok v w ∧ plainElem (H := Unit) P e v = some (atL lit (f s.data.toList) zd, []) := by
  obtain ⟨D, h, h2⟩ := h
  obtain ⟨v, ps, h3, h4⟩ := h.lookup (string_keyed hk) ht hz hzd (keyOf_string_mk hk hs)
  refine ⟨v, h3, ?_⟩
  have hp := plainElem_places h4
  simp only at hp
  subst hp
  rw [h4, h2]
end

section
variable {P : Program} {k e : TypeId} {w : World} {b n : Nat}
theorem str_lit {he : P.underlying e = some .string} {v : Value} {x : List UInt8} (h : plainElem (H := Unit) P e v = some (.lit (.string x), [])) : v = .string (str0 x) := by
  obtain ⟨s, rfl, h2, _⟩ := plainElem_string_inv he h
  simp only [Prod.mk.injEq, DataW.lit.injEq, Lit.string.injEq, and_true] at h2
  rw [h2]; rfl
theorem bool_lit {he : P.underlying e = some .bool} {v : Value} {x : Bool} (h : plainElem (H := Unit) P e v = some (.lit (.bool x), [])) : v = .bool x := by
  unfold plainElem at h
  rw [he] at h
  cases v <;> simp at h
  rw [h]
theorem int_lit {he : P.underlying e = some (.int .i64)} {v : Value} {x : Int} (h : plainElem (H := Unit) P e v = some (.lit (.int .i64 x), [])) : v = .int .i64 x := by
  obtain ⟨s, rfl, h2, _⟩ := plainElem_int_inv he h
  simp only [Prod.mk.injEq, DataW.lit.injEq, Lit.int.injEq, true_and, and_true] at h2
  rw [h2]
theorem smap_look_ok {t : TypeId} {f : List UInt8 → Option (List UInt8)} (h : SMap P k e w b n f) (hk : P.underlying k = some .string) (he : P.underlying e = some .string) (ht : P.underlying t = some (.map k e)) {s : ByteArray} (hs : s.size ≤ maxLen) (hz : (zeroValue e).run P w = .ok (.string ⟨#[]⟩) w) :
    (Instr.lookup t (.map (some b)) (.string s) true).run P w = .ok (.tuple #[.string (str0 ((f s.data.toList).getD [])), .bool (f s.data.toList).isSome]) w := by
  obtain ⟨v, h1, h2⟩ := MapR.look_ok h hk ht hs hz (plainElem_string he (by decide))
  have h3 : v = .string (str0 ((f s.data.toList).getD [])) := by
    cases hf : f s.data.toList with
    | none => rw [hf] at h2; exact str_lit (he := he) h2
    | some a => rw [hf] at h2; exact str_lit (he := he) h2
  rw [h1, h3]
theorem smap_look {t : TypeId} {f : List UInt8 → Option (List UInt8)} (h : SMap P k e w b n f) (hk : P.underlying k = some .string) (he : P.underlying e = some .string) (ht : P.underlying t = some (.map k e)) {s : ByteArray} (hs : s.size ≤ maxLen) (hz : (zeroValue e).run P w = .ok (.string ⟨#[]⟩) w) :
    (Instr.lookup t (.map (some b)) (.string s) false).run P w = .ok (.string (str0 ((f s.data.toList).getD []))) w := by
  obtain ⟨v, h1, h2⟩ := MapR.look h hk ht hs hz (plainElem_string he (by decide))
  have h3 : v = .string (str0 ((f s.data.toList).getD [])) := by
    cases hf : f s.data.toList with
    | none => rw [hf] at h2; exact str_lit (he := he) h2
    | some a => rw [hf] at h2; exact str_lit (he := he) h2
  rw [h1, h3]
theorem bmap_look {t : TypeId} {f : List UInt8 → Option Bool} (h : BMap P k e w b n f) (hk : P.underlying k = some .string) (he : P.underlying e = some .bool) (ht : P.underlying t = some (.map k e)) {s : ByteArray} (hs : s.size ≤ maxLen) (hz : (zeroValue e).run P w = .ok (.bool false) w) :
    (Instr.lookup t (.map (some b)) (.string s) false).run P w = .ok (.bool ((f s.data.toList).getD false)) w := by
  obtain ⟨v, h1, h2⟩ := MapR.look h hk ht hs hz (plainElem_bool he _)
  have h3 : v = .bool ((f s.data.toList).getD false) := by
    cases hf : f s.data.toList with
    | none => rw [hf] at h2; exact bool_lit (he := he) h2
    | some a => rw [hf] at h2; exact bool_lit (he := he) h2
  rw [h1, h3]
theorem imap_look {t : TypeId} {f : List UInt8 → Option Int} (h : IMap P k e w b n f) (hk : P.underlying k = some .string) (he : P.underlying e = some (.int .i64)) (ht : P.underlying t = some (.map k e)) {s : ByteArray} (hs : s.size ≤ maxLen) (hz : (zeroValue e).run P w = .ok (.int .i64 0) w) :
    (Instr.lookup t (.map (some b)) (.string s) false).run P w = .ok (.int .i64 ((f s.data.toList).getD 0)) w := by
  obtain ⟨v, h1, h2⟩ := MapR.look h hk ht hs hz (plainElem_int he (by decide))
  have h3 : v = .int .i64 ((f s.data.toList).getD 0) := by
    cases hf : f s.data.toList with
    | none => rw [hf] at h2; exact int_lit (he := he) h2
    | some a => rw [hf] at h2; exact int_lit (he := he) h2
  rw [h1, h3]
end

section
variable {α : Type} {lit : α → Lit} {P : Program} {k e : TypeId} {w : World} {b n : Nat} {f : List UInt8 → Option α} {ops : Array Oper} {rest : List Oper} {o : Oper} {a : Act} {Q : Exit → Act → World → Prop}
/-- m[k] = v, at the operation -/
theorem wpList_storeR (hg : o.guard = none) (m x v : Operand) (t : TypeId) (hop : o.op = Op.mapUpdate t m x v) (hk : P.underlying k = some .string) (ht : P.underlying t = some (.map k e)) (h : MapR lit P k e w b n f) (hn : n < maxLen)
    (hm : a.eval m = .map (some b)) (s : ByteArray) (hs : s.size ≤ maxLen) (val : Value) (y : α) (hx : a.eval x = .string s) (hv : a.eval v = val) (hval : plainElem (H := Unit) P e val = some (.lit (lit y), []))
    (hK : ∀ w', MapR lit P k e w' b (n + 1) (putF f s.data.toList y) → w.mapTurned w' b → wpList P ops Q rest (a.put o.dst undef) w') : wpList P ops Q (o :: rest) a w := by
  refine wpList_plain hg fun K' hK' => ?_
  obtain ⟨w', hrun, r1, r2⟩ := h.store hk ht hn hs hval
  unfold Oper.wp
  simp [execOp, hop, hm, hx, hv, hrun, Result.andThen]
  exact hK' _ _ (hK w' r1 r2)
/-- delete(m, k), at the operation -/
theorem wpList_dropR (hg : o.guard = none) (m x : Operand) (t : TypeId) (hop : o.op = Op.call { callee := Callee.builtin Builtin.delete, args := #[m, x], argTypes := #[t, k] }) (hk : P.underlying k = some .string) (ht : P.underlying t = some (.map k e)) (h : MapR lit P k e w b n f)
    (hm : a.eval m = .map (some b)) (s : ByteArray) (hs : s.size ≤ maxLen) (hx : a.eval x = .string s)
    (hK : ∀ w', MapR lit P k e w' b n (delF f s.data.toList) → w.mapTurned w' b → wpList P ops Q rest (a.put o.dst (.tuple #[])) w') : wpList P ops Q (o :: rest) a w := by
  refine wpList_plain hg fun K' hK' => ?_
  obtain ⟨w', hrun, r1, r2⟩ := h.drop hk ht hs o.type
  unfold Oper.wp
  simp [execOp, hop, resolve, invoke, builtin, hm, hx, hrun, Result.andThen]
  exact hK' _ _ (hK w' r1 r2)
/-- a look-up whose run is known, at the operation -/
theorem wpList_lookR (hg : o.guard = none) (m x : Operand) (t : TypeId) (c : Bool) (hop : o.op = Op.lookup t m x c) (s : ByteArray) (y : Value)
    (hm : a.eval m = .map (some b)) (hx : a.eval x = .string s) (hrun : (Instr.lookup t (.map (some b)) (.string s) c).run P w = .ok y w)
    (hK : wpList P ops Q rest (a.put o.dst y) w) : wpList P ops Q (o :: rest) a w := by
  refine wpList_plain hg fun K' hK' => ?_
  unfold Oper.wp
  simp [execOp, hop, hm, hx, hrun, Result.andThen]
  exact hK' _ _ hK
end
theorem turned_below {w w' : World} {B b : Nat} (h : w.mapTurned w' b) (hB : B ≤ b) (hb : B ≤ w.heap.size) : Below B w w' := by
  have hg := h.grown
  exact Below.grown (Below.refl B w) hg hb (fun j hj => by cases hj; exact hB)

end Go.Proofs.YtphmhhonbkcajaaDoor
