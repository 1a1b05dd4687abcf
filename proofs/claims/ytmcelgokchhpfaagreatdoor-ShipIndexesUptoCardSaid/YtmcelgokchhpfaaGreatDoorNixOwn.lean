/-
  The index in its box: small laws of memory, and the post of a call that returns an index and an error.
-/
import Derived.Test.YtmcelgokchhpfaaGreatDoorReadDoc
import Derived.Test.YtmcelgokchhpfaaGreatDoorNixDocs
import Derived.Test.YtmcelgokchhpfaaGreatDoorNixPlain
import Derived.Test.YtmcelgokchhpfaaGreatDoorStem
import Derived.Laws.ResultCell
namespace Go.Proofs.YtmcelgokchhpfaaGreatDoor
open Go.RowKit Go.Deep

theorem own_base {w : World} {B B' K n : Nat} {e : TypeId} {v : Value} {xs : List Value} (h : w.ownsRow B' e K v n xs) (hB : B ≤ B') : w.ownsRow B e K v n xs := by
  obtain ⟨hl, h2⟩ := h
  rcases h2 with h2 | ⟨g, cap, cur, h1, h3, h4⟩
  · exact ⟨hl, Or.inl h2⟩
  · exact ⟨hl, Or.inr ⟨g, cap, cur, h1, Nat.le_trans hB h3, h4⟩⟩
theorem own_setT {w : World} {B K n b o : Nat} {e t : TypeId} {v : Value} {xs : List Value} {cs : Array Value} (h : w.ownsRow B e K v n xs) (hc : CB w b t cs) (hne : t ≠ e) (x : Value) : (w.setCell ⟨b, o, none⟩ x).ownsRow B e K v n xs := own_rowT h (grown_setB w b o x) (RowT.cb hc hne)
theorem idx_done {fn : Func} {a : Act} {W : World} {Post : Ending → World → Prop} {n : Nat} {cs : Array Value} {code : Int} (hfn : fn.results = #[.cell 2 26, .tmp 3]) (hb : CB W n 26 cs) (hs : cs.size = 3)
    (hp : a.tmps.getD 2 undef = .pointer (some ⟨n, 0, none⟩)) (hc : a.tmps.getD 3 undef = .int .i64 code) (hd : a.defers = []) (h : Post (.returned (.tuple #[.agg cs, .int .i64 code])) W) : bodyPost Tryz.prog fn Post .ret a W := by
  refine bodyPost_ret ?_ hd h
  rw [results_cell_tmp hfn, hp, hc]
  have h2 := run_loadVar_row (P := Tryz.prog) W n 26 26 cs (0, 0) _ hb Tryz.underlying26 rfl (by rw [hs]; kernel_rfl)
  simp [asAddr, h2, Result.andThen]

theorem IdxOwn.base {w : World} {B B' : Nat} {dv sv tv : Value} {s : St} {L : List (TermR × Value × Value)} (h : IdxOwn w B' dv sv tv s L) (hB : B ≤ B') : IdxOwn w B dv sv tv s L :=
  ⟨h.oL, own_base h.od hB, own_base h.os hB, own_base h.ot hB, fun x hx => ⟨own_base (h.ow x hx).1 hB, own_base (h.ow x hx).2 hB⟩, h.oi⟩

/-- a document's words, stemmed: of the title, of the text -/
def twL (d : DocR) : List (List UInt8) := (wordsAux d.title.data.toList []).map stemL
def bwL (d : DocR) : List (List UInt8) := (wordsAux d.text.data.toList []).map stemL
/-- how often a document holds a word; one of the title counts thrice -/
def wAt (D : List DocR) (n : Nat) (s : List UInt8) : Nat := match D[n]? with | some d => 3 * (twL d).count s + (bwL d).count s | none => 0
theorem wAt_at {D : List DocR} {n : Nat} {d : DocR} (h : D[n]? = some d) (s : List UInt8) : wAt D n s = 3 * (twL d).count s + (bwL d).count s := by rw [wAt, h]
/-- the documents and sizes of the index -/
def nixD (D : List DocR) : List DocR := D.map fun d => ⟨d.addr, d.title, ⟨#[]⟩⟩
def nixS (D : List DocR) : List Int := D.map fun d => (((wordsAux d.title.data.toList []).length + (wordsAux d.text.data.toList []).length : Nat) : Int)
/-- the words of all documents, as mastref1.IndexOf gathers them -/
def allW : List DocR → List (List UInt8)
  | [] => []
  | d :: r => namesL (ownL (twL d) (bwL d)) ++ allW r
def nixK (D : List DocR) : List (List UInt8) := namesL (allW D)
def nixTerm (D : List DocR) (s : List UInt8) : TermR := ⟨str0 s, pD (wAt D) D.length s, pM (wAt D) D.length s⟩
def nixT (D : List DocR) : List TermR := (nixK D).map (nixTerm D)
def nixE (D : List DocR) : Int := if docsFE D = 0 then (if 400000 < (idxT (nixD D) (nixS D) (nixT D)).length then 4 else 0) else docsFE D
theorem nixE_docs {D : List DocR} {v : Int} (h : docsFE D = v) (hv : ¬ v = 0) : nixE D = v := by rw [nixE, h, if_neg hv]
theorem nixE_big {D : List DocR} (h : docsFE D = 0) (h2 : 400000 < (idxT (nixD D) (nixS D) (nixT D)).length) : nixE D = 4 := by rw [nixE, if_pos h, if_pos h2]
theorem nixE_ok {D : List DocR} (h : docsFE D = 0) (h2 : ¬ 400000 < (idxT (nixD D) (nixS D) (nixT D)).length) : nixE D = 0 := by rw [nixE, if_pos h, if_neg h2]
def nixSt (D : List DocR) : St := if nixE D = 0 then ⟨nixD D, nixS D, nixT D⟩ else st0
def NixPost (N : Nat) (D : List DocR) (w : World) (e : Ending) (w' : World) : Prop :=
  ∃ (dv sv tv : Value) (L : List (TermR × Value × Value)), e = .returned (.tuple #[.agg #[dv, sv, tv], .int .i64 (nixE D)]) ∧ IdxOwn w' N dv sv tv (nixSt D) L ∧ Below N w w'
theorem NixPost.err {N : Nat} {D : List DocR} {w w' : World} {v : Int} (h : nixE D = v) (hv : v ≠ 0) (hb : Below N w w') : NixPost N D w (.returned (.tuple #[.agg #[.slice none 0 0, .slice none 0 0, .slice none 0 0], .int .i64 v])) w' :=
  ⟨_, _, _, [], by rw [h], by rw [nixSt, if_neg (by rw [h]; exact hv)]; exact IdxOwn.start _ _, hb⟩
theorem NixPost.ok {N : Nat} {D : List DocR} {w w' : World} {dv sv tv : Value} {L : List (TermR × Value × Value)} (h : nixE D = 0) (ho : IdxOwn w' N dv sv tv ⟨nixD D, nixS D, nixT D⟩ L) (hb : Below N w w') : NixPost N D w (.returned (.tuple #[.agg #[dv, sv, tv], .int .i64 0])) w' :=
  ⟨_, _, _, L, by rw [h], by rw [nixSt, if_pos h]; exact ho, hb⟩

theorem allW_mem {D : List DocR} {s : List UInt8} : s ∈ allW D ↔ ∃ d, d < D.length ∧ 0 < wAt D d s := by
  induction D with
  | nil => simp [allW]
  | cons x r ih =>
    rw [allW, List.mem_append, namesL_mem, ih]
    have h0 : s ∈ ownL (twL x) (bwL x) ↔ 0 < wAt (x :: r) 0 s := by
      rw [wAt_at (List.getElem?_cons_zero ..), ← own_count, List.count_pos_iff]
    have hs : ∀ d, wAt (x :: r) (d + 1) s = wAt r d s := fun d => by simp [wAt]
    constructor
    · rintro (h | ⟨d, h1, h2⟩)
      · exact ⟨0, by simp, h0.1 h⟩
      · exact ⟨d + 1, by simpa using h1, by rw [hs]; exact h2⟩
    · rintro ⟨d, h1, h2⟩
      cases d with
      | zero => exact Or.inl (h0.2 h2)
      | succ d => exact Or.inr ⟨d, by simpa using h1, by rw [← hs]; exact h2⟩
theorem nixK_mem {D : List DocR} {s : List UInt8} : s ∈ nixK D ↔ pD (wAt D) D.length s ≠ [] := by rw [nixK, namesL_mem, allW_mem, pD_ne]
theorem nixK_lt (D : List DocR) : (nixK D).Pairwise (· < ·) := namesL_lt _

end Go.Proofs.YtmcelgokchhpfaaGreatDoor
