/-
  A row of bytes of the call's own, made a string.
-/
import Derived.Test.YtbhildmalcfhiaaGreatDoorBytes
import Derived.Laws.BytesArg
import Derived.WalkSmall
namespace Go.Proofs.YtbhildmalcfhiaaGreatDoor
open Go.RowKit

theorem row_len {B : Nat} {w : World} {v : Value} {m : Nat} {bs : List UInt8} (h : w.ownsRow B 5 1 v m (byteCells bs)) : bs.length = m := by
  have := h.1
  simpa [byteCells] using this

theorem row_more {B : Nat} {w : World} {v : Value} {m : Nat} {bs : List UInt8} {x : Int} (c : UInt8) (h : w.ownsRow B 5 1 v m (byteCells bs ++ [.int .u8 x])) (hx : (c.toNat : Int) = x) : w.ownsRow B 5 1 v m (byteCells (bs ++ [c])) := by
  subst hx
  have : byteCells (bs ++ [c]) = byteCells bs ++ [.int .u8 (c.toNat : Int)] := by simp [byteCells]
  rw [this]
  exact h

theorem conv_row {w : World} {B : Nat} {A : Option Addr} {m c : Nat} {bs : List UInt8} (h : w.ownsRow B 5 1 (.slice A m c) m (byteCells bs)) :
    (convert 165 9 (.slice A m c)).run Tryz.prog w = .ok (.string ⟨bs.toArray⟩) w := by
  have hl := row_len h
  subst hl
  cases A with
  | none =>
    obtain ⟨A', c', hv, _, _, hA⟩ := own_form h
    cases hv
    have h0 : bs = [] := by
      cases bs with
      | nil => rfl
      | cons a r =>
        obtain ⟨g, hg, _⟩ := hA (by simp)
        cases hg
    subst h0
    exact run_convert_bytes_nil (P := Tryz.prog) w 165 5 Tryz.underlying165 Tryz.underlying5 _ _ _ Tryz.underlying9
  | some a =>
    refine run_convert_bytes_back w 165 9 5 a c bs Tryz.underlying165 Tryz.underlying5 Tryz.underlying9 (fun j hj => ?_)
    obtain ⟨A', c', hv, _, _, hA⟩ := own_form h
    cases hv
    obtain ⟨g, hg, _, _⟩ := hA (by omega)
    cases hg
    have hadd : (⟨g, 0, none⟩ : Addr).add j = ⟨g, j, none⟩ := by unfold Addr.add; split <;> simp_all
    rw [hadd]
    exact own_cell h (byteCells_get (List.getElem?_eq_getElem hj))

/-- a fresh row of one byte made a string -/
theorem conv_one (W : World) (c : UInt8) : (convert 165 9 (.slice (some ⟨W.heap.size, 0, none⟩) 1 1)).run Tryz.prog (W.alloc (.cells #[.int .u8 (c.toNat : Int)] 5)) = .ok (.string ⟨#[c]⟩) (W.alloc (.cells #[.int .u8 (c.toNat : Int)] 5)) :=
  conv_string (W.alloc (.cells #[.int .u8 (c.toNat : Int)] 5)) 165 9 5 W.heap.size 1 1 [c] Tryz.underlying165 Tryz.underlying5 Tryz.underlying9 rfl (fun j hj => by
    have : j = 0 := by omega
    subst this
    rw [World.cell?_alloc_new]
    rfl)

theorem info_byte2 : (Tryz.prog.info? 5).map (fun i => (i.zero, i.size, i.bytes)) = some (some (.int .u8 0), 1, 1) := by kernel_rfl

end Go.Proofs.YtbhildmalcfhiaaGreatDoor
