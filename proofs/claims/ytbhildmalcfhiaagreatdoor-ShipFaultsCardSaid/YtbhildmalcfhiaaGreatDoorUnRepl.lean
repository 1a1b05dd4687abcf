/-
  (*strings.genericReplacer).Replace over the trie of five names.
-/
import Derived.Test.YtbhildmalcfhiaaGreatDoorUnWrite
import Derived.Laws.BytesArg
namespace Go.Proofs.YtbhildmalcfhiaaGreatDoor
open Go.RowKit Go.Deep

theorem row_lenU {B : Nat} {w : World} {v : Value} {m : Nat} {bs : List UInt8} (h : w.ownsRow B 5 1 v m (byteCells bs)) : bs.length = m := by
  have := h.1
  simpa [byteCells] using this
theorem conv_rowU {w : World} {B : Nat} {A : Option Addr} {m c : Nat} {bs : List UInt8} (h : w.ownsRow B 5 1 (.slice A m c) m (byteCells bs)) :
    (convert 322 9 (.slice A m c)).run Tryz.prog w = .ok (.string ⟨bs.toArray⟩) w := by
  have hl := row_lenU h
  subst hl
  cases A with
  | none =>
    obtain ⟨A', c', hv, _, _, hA⟩ := own_form h
    cases hv
    have h0 : bs = [] := by
      cases bs with
      | nil => rfl
      | cons a r =>
        obtain ⟨g, hg, _⟩ := hA (by simp)
        cases hg
    subst h0
    exact run_convert_bytes_nil (P := Tryz.prog) w 322 5 Tryz.underlying322 Tryz.underlying5 _ _ _ Tryz.underlying9
  | some a =>
    refine run_convert_bytes_back w 322 9 5 a c bs Tryz.underlying322 Tryz.underlying5 Tryz.underlying9 (fun j hj => ?_)
    obtain ⟨A', c', hv, _, _, hA⟩ := own_form h
    cases hv
    obtain ⟨g, hg, _, _⟩ := hA (by omega)
    cases hg
    have hadd : (⟨g, 0, none⟩ : Addr).add j = ⟨g, j, none⟩ := by unfold Addr.add; split <;> simp_all
    rw [hadd]
    exact own_cell h (byteCells_get (List.getElem?_eq_getElem hj))

set_option maxRecDepth 100000 in
set_option maxHeartbeats 4000000 in
theorem replU_q (b tb na ta : Nat) (nd lf : Nat → Nat) (s : ByteArray) (w : World) (hT : TrieAt w b tb na ta nd lf) (hs : s.size ≤ 2097152) :
    Calls Tryz.prog 280 #[.pointer (some ⟨b, 0, none⟩), .string s] w fun e w' => e = .returned (.string ⟨(unU s.data.toList).toArray⟩) ∧ Below w.heap.size w w' := by
  obtain ⟨i0, hi, hz0, hz1, hz2⟩ := info_parts info_byteU
  have HT := Lib.hid hT; clear hT
  go_enter Tryz.func280, Tryz.ntmps280
  go_wp2_with (at_make; go_must (refine wpList_make_own _ rfl _ _ 322 rfl w.heap.size 5 i0 (.int .u8 0) 1 Tryz.underlying322 hi hz0 hz1 .i64 .i64 _ s.size rfl rfl (by omega) (by rw [hz2]; omega) (by unfold maxLen; omega) (Nat.le_refl _) ?_); intro w2 own2 hg2; have HO2 := Lib.hid own2; have HG2 := Lib.hid hg2; clear own2 hg2)
  have HB2 := Lib.hid ((Below.refl w.heap.size w).grown HG2.out (Nat.le_refl _) (fun k hk => by cases hk))
  obtain ⟨bx, hbx⟩ : ∃ bx, w2.heap.size = bx := ⟨_, rfl⟩
  obtain ⟨w3, hw3⟩ : ∃ w3, w2.alloc (.cells #[.slice (some ⟨w.heap.size, 0, none⟩) 0 s.size] 322) = w3 := ⟨_, rfl⟩
  have hSW : SWAt w3 w.heap.size bx [] := by
    refine ⟨some ⟨w.heap.size, 0, none⟩, s.size, by rw [← hbx]; exact HB2.out.size, ?_, ?_⟩
    · rw [← hw3, ← hbx]; exact CB.new _ _ _
    · rw [← hw3]; exact own_alloc HO2.out _
  have HSW := Lib.hid hSW; clear hSW
  have HB3 := Lib.hid (show Below w.heap.size w w3 by rw [← hw3]; exact HB2.out.alloc HB2.out.size _)
  rw [hw3, hbx]
  clear hw3 hbx
  go_wp2_with (go_at_call 281; go_must (refine (replWrite_q w b tb na ta nd lf bx s w3 HT.out HB3.out HSW.out hs).mono ?_); rintro e w4 ⟨⟨n4, rfl⟩, ⟨A, c, hBx, hc4, ho4⟩, hb4⟩; have c0 : w4.cell? ⟨bx, 0, none⟩ = some (.slice A (unU s.data.toList).length c) := (hc4.c 0).trans rfl; have hcv := conv_rowU ho4; have HB4 := Lib.hid hb4; clear hb4 hc4 ho4)
  go_ret
  exact ⟨rfl, HB4.out⟩

end Go.Proofs.YtbhildmalcfhiaaGreatDoor
