/-
  The writer of a generic replacer: (*strings.appendSliceWriter).WriteString; getStringWriter.
-/
import Derived.Test.YtbhildmalcfhiaaGreatDoorLookup
import Derived.Lib.AppendStr
import Derived.Handy
import Derived.Stop.Asserts
namespace Go.Proofs.YtbhildmalcfhiaaGreatDoor
open Go.RowKit Go.Deep

/-- the writer's box: a slice of the call's own -/
def SWAt (w : World) (B bx : Nat) (l : List UInt8) : Prop := ∃ (A : Option Addr) (c : Nat), B ≤ bx ∧ CB w bx 322 #[.slice A l.length c] ∧ w.ownsRow B 5 1 (.slice A l.length c) l.length (byteCells l)
theorem SWAt.drewN {w : World} {B bx : Nat} {l : List UInt8} (h : SWAt w B bx l) (k : Nat) : SWAt (w.drewN k) B bx l := by
  obtain ⟨A, c, h1, h2, h3⟩ := h
  exact ⟨A, c, h1, h2.drewN k, own_drewN h3 k⟩
theorem SWAt.drew {w : World} {B bx : Nat} {l : List UInt8} (h : SWAt w B bx l) : SWAt w.drew B bx l := by
  obtain ⟨A, c, h1, h2, h3⟩ := h
  exact ⟨A, c, h1, h2.drew, own_drew h3⟩
theorem info_byteU : (Tryz.prog.info? 5).map (fun i => (i.zero, i.size, i.bytes)) = some (some (.int .u8 0), 1, 1) := by kernel_rfl
theorem strCells_bytes (s : ByteArray) : Lib.strCells s = byteCells s.data.toList := rfl
theorem byteCells_append (l r : List UInt8) : byteCells (l ++ r) = byteCells l ++ byteCells r := by simp [byteCells]
theorem own_notbox {w : World} {B bx n : Nat} {v : Value} {xs : List Value} {cs : Array Value} (h : w.ownsRow B 5 1 v n xs) (hc : CB w bx 322 cs) : some bx ≠ v.ownBlock := by
  intro e
  rcases h.2 with ⟨rfl, rfl⟩ | ⟨g, cap, cur, rfl, hB, hgg, _⟩
  · simp [Value.ownBlock] at e
  · have e2 : bx = g := by simpa [Value.ownBlock] using e
    subst e2
    have h7 : w.heap[bx]? = some (.cells cs 322 (0, 0)) := hc
    rw [hgg] at h7
    simp at h7

set_option maxRecDepth 100000 in
set_option maxHeartbeats 2000000 in
theorem swWrite_q (B bx : Nat) (l : List UInt8) (s : ByteArray) (w : World) (h : SWAt w B bx l) (hlen : l.length + s.size ≤ 1073741824) (hBw : B ≤ w.heap.size) :
    Calls Tryz.prog 290 #[.pointer (some ⟨bx, 0, none⟩), .string s] w fun e w' => e = .returned (.tuple #[.int .i64 s.size, .nilIface]) ∧ SWAt w' B bx (l ++ s.data.toList) ∧ Below B w w' := by
  obtain ⟨i0, hi, hz0, hz1, hz2⟩ := info_parts info_byteU
  obtain ⟨A, c, hB, hc, hown⟩ := h
  have c0 : w.cell? ⟨bx, 0, none⟩ = some (.slice A l.length c) := (hc.c 0).trans rfl
  have HOwn := Lib.hid hown; clear hown
  have HC := Lib.hid hc; clear hc
  go_enter Tryz.func290, Tryz.ntmps290
  go_wp2_with (at_builtin; go_must (refine Lib.wpList_append_own_string _ rfl _ _ 322 9 rfl B 5 i0 Tryz.underlying322 Tryz.underlying9 hi hz0 hz1 hz2 _ _ _ rfl HOwn.out s rfl ?c3 ?c4 ?c5 ?_))
  case c3 => unfold maxLen; omega
  case c4 => omega
  case c5 => exact hBw
  intro v' w2 hown' hgrow _
  have hb2 : CB w2 bx 322 #[.slice A l.length c] := HC.out.other hgrow (own_notbox HOwn.out HC.out)
  have d0 : w2.cell? ⟨bx, 0, none⟩ = some (.slice A l.length c) := (hb2.c 0).trans rfl
  have f0 := hb2.f 0
  have HO2 := Lib.hid hown'; clear hown'
  have HB2 := Lib.hid hb2; clear hb2
  have HG := Lib.hid ((Below.refl B w).grown hgrow hBw (fun k hk => (HOwn.out.lt k hk).1)); clear hgrow
  obtain ⟨A2, c2, rfl, hc1, hc2, hc3⟩ := own_form HO2.out
  clear hc1 hc2 hc3
  go_wp2_with fail
  go_ret2
  have hl : (l ++ s.data.toList).length = l.length + s.size := by rw [List.length_append, size_toList]
  refine ⟨rfl, ⟨A2, c2, hB, ?_, ?_⟩, HG.out.setCell (p := ⟨bx, 0, none⟩) hB _⟩
  · rw [hl]; exact HB2.out.put 0 _
  · rw [hl, byteCells_append]
    refine World.ownsRow.kept HO2.out (grown_setB w2 bx 0 _) (Or.inr fun e => own_notbox HO2.out HB2.out e.symm)

set_option maxRecDepth 100000 in
set_option maxHeartbeats 2000000 in
theorem getSW_q (p : Addr) (w : World) :
    Calls Tryz.prog 282 #[.iface 323 (.pointer (some p))] w fun e w' => e = .returned (.iface 323 (.pointer (some p))) ∧ w' = w := by
  have hta := fun (v : Value) (W : World) => run_typeAssert_hasB (P := Tryz.prog) (t := 323) (asserted := 327) Tryz.underlying327 (by kernel_rfl) v 325 W
  go_enter Tryz.func282, Tryz.ntmps282
  go_wp2_with fail
  go_ret
  exact ⟨rfl, rfl⟩

end Go.Proofs.YtbhildmalcfhiaaGreatDoor
