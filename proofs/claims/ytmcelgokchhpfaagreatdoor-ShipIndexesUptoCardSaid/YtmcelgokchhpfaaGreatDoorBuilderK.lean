/-
  (*strings.Builder).WriteString, with what it keeps: blocks of cells that are no bytes and not the builder's.
-/
import Derived.Test.YtmcelgokchhpfaaGreatDoorBuilder
import Derived.Test.YtmcelgokchhpfaaGreatDoorBox
namespace Go.Proofs.YtmcelgokchhpfaaGreatDoor
open Go.RowKit

theorem CB.set_other {w : World} {n m o : Nat} {t : TypeId} {cs : Array Value} (h : CB w n t cs) (hne : n ≠ m) (v : Value) : CB (w.setCell ⟨m, o, none⟩ v) n t cs := h.other (grown_setB w m o v) (by simpa using hne)
/-- blocks of cells that are no bytes and not block b stay as they are -/
def KeepB (b : Nat) (w w' : World) : Prop := ∀ (n : Nat) (t : TypeId) (cs : Array Value), CB w n t cs → t ≠ 5 → n ≠ b → CB w' n t cs
theorem KeepB.refl (b : Nat) (w : World) : KeepB b w w := fun _ _ _ h _ _ => h
theorem KeepB.trans {b : Nat} {x y z : World} (h : KeepB b x y) (k : KeepB b y z) : KeepB b x z := fun n t cs hc ht hn => k n t cs (h n t cs hc ht hn) ht hn
theorem KeepB.set (w : World) (b o : Nat) (v : Value) : KeepB b w (w.setCell ⟨b, o, none⟩ v) := fun _ _ _ h _ hn => h.set_other hn v
theorem KeepB.grown {b : Nat} {w w' : World} {B : Nat} {v : Value} {n : Nat} {xs : List Value} (h : w.ownsRow B 5 1 v n xs) (hg : w.grownBy w' v.ownBlock) : KeepB b w w' := by
  intro m t cs hc ht _
  refine (hg.block m hc.lt ?_).trans hc
  intro e
  rcases h.2 with ⟨rfl, rfl⟩ | ⟨g, cap, cur, rfl, hB, hgg, _⟩
  · simp [Value.ownBlock] at e
  · have e2 : m = g := by simpa [Value.ownBlock] using e
    subst e2
    have := hc.symm.trans hgg
    simp at this
    exact ht this.2
theorem copyCheck_k (B b : Nat) (bs : List Value) (w : World) (h : Lib.IsBuilder 75 5 B b bs w) :
    Calls Tryz.prog 66 #[.pointer (some ⟨b, 0, none⟩)] w fun e w' => e = .returned (.tuple #[]) ∧ Lib.BuilderAt 75 5 B b (.pointer (some ⟨b, 0, none⟩)) bs w' ∧ Below B w w' ∧ KeepB b w w' := by
  rcases h with h | h
  · refine (copyCheck_fresh b w h.cell0 h.shape h.frozen0).mono fun e w' ⟨he, hw⟩ => ?_
    subst hw
    exact ⟨he, h.used _, (Below.refl _ _).setCell (p := ⟨b, 0, none⟩) h.1 _, KeepB.set _ _ _ _⟩
  · refine (copyCheck_used b w h.cell0).mono fun e w' ⟨he, hw⟩ => ?_
    subst hw
    exact ⟨he, h, Below.refl _ _, KeepB.refl _ _⟩

set_option maxRecDepth 100000 in
set_option maxHeartbeats 1000000 in
theorem writeString_kbig (B b : Nat) (l : List UInt8) (s : ByteArray) (w : World) (h : Bld B b l w) (hlen : l.length + s.size ≤ 70368744177664) (hBw : B ≤ w.heap.size) :
    Calls Tryz.prog 33 #[.pointer (some ⟨b, 0, none⟩), .string s] w fun e w' => e = .returned (.tuple #[.int .i64 s.size, .nilIface]) ∧ Bld B b (l ++ s.data.toList) w' ∧ Below B w w' ∧ KeepB b w w' := by
  obtain ⟨i0, hi, hz0, hz1, hz2⟩ := info_parts info_byte
  have hcp := copyCheck_k B b _ w h
  have HC := Lib.hid hcp; clear hcp
  go_enter Tryz.func33, Tryz.ntmps33
  go_wp2_with fail
  refine HC.out.mono ?_
  rintro e w1 ⟨rfl, ⟨hB, v, hbk, hown, hne⟩, hb1, hk1⟩
  have HK1 := Lib.hid hk1; clear hk1
  have hnl : (byteCells l).length = l.length := by simp [byteCells]
  rw [hnl] at hown
  have c0 : w1.cell? ⟨b, 0, none⟩ = some (.pointer (some ⟨b, 0, none⟩)) := by rw [Lib.cell_of_heap hbk]; rfl
  have c1 : w1.cell? ⟨b, 1, none⟩ = some v := by rw [Lib.cell_of_heap hbk]; rfl
  have hz := hb1.size
  have HB1 := Lib.hid hb1; clear hb1
  have hlt : b < w1.heap.size := (Array.getElem?_eq_some_iff.1 hbk).1
  have HBk := Lib.hid hbk; clear hbk
  have HNe := Lib.hid hne; clear hne
  have HOwn := Lib.hid hown; clear hown
  clear h hnl
  obtain ⟨A1, cc, rfl, hc1, hc2, hc3⟩ := own_form HOwn.out
  clear hc1 hc2 hc3
  go_wp2_with (at_builtin; go_must (refine Lib.wpList_append_own_string _ rfl _ _ 73 9 rfl B 5 i0 Tryz.underlying73 Tryz.underlying9 hi hz0 hz1 hz2 _ _ _ rfl HOwn.out s rfl ?c3 ?c4 ?c5 ?_))
  case c3 => unfold maxLen; omega
  case c4 => omega
  case c5 => omega
  intro v' w2 hown' hgrow _
  have hb2 : w2.heap[b]? = some (.cells #[.pointer (some ⟨b, 0, none⟩), .slice A1 l.length cc] 75 (0, 0)) := by
    rw [hgrow.block b hlt (fun e => HNe.out e.symm)]
    exact HBk.out
  have d0 : w2.cell? ⟨b, 0, none⟩ = some (.pointer (some ⟨b, 0, none⟩)) := by rw [Lib.cell_of_heap hb2]; rfl
  have d1 : w2.cell? ⟨b, 1, none⟩ = some (.slice A1 l.length cc) := by rw [Lib.cell_of_heap hb2]; rfl
  have f1 : w2.frozen? ⟨b, 1, none⟩ = false := Lib.frozen_of_heap hb2 1
  have HO2 := Lib.hid hown'; clear hown'
  have HB2 := Lib.hid hb2; clear hb2
  have HKS := Lib.hid (HK1.out.trans (KeepB.grown HOwn.out hgrow))
  have HG := Lib.hid (HB1.out.grown hgrow (by omega) (fun k hk => (HOwn.out.lt k hk).1)); clear hgrow
  obtain ⟨A2, c2, rfl, hc1, hc2, hc3⟩ := own_form HO2.out
  clear hc1 hc2 hc3
  go_wp2_with fail
  go_ret2
  refine ⟨rfl, Or.inr ?_, HG.out.setCell (p := ⟨b, 1, none⟩) hB _, HKS.out.trans (KeepB.set _ _ _ _)⟩
  have hcells : byteCells (l ++ s.data.toList) = byteCells l ++ Lib.strCells s := by simp [byteCells, Lib.strCells]
  rw [hcells]
  exact Lib.BuilderAt.put hB HB2.out (bs' := byteCells l ++ Lib.strCells s) (by have := HO2.out; rw [List.length_append, Lib.strCells_length]; simpa [byteCells] using this) neB5

theorem writeString_k (B b : Nat) (l : List UInt8) (s : ByteArray) (w : World) (h : Bld B b l w) (hlen : l.length + s.size ≤ 1073741824) (hBw : B ≤ w.heap.size) :
    Calls Tryz.prog 33 #[.pointer (some ⟨b, 0, none⟩), .string s] w fun e w' => e = .returned (.tuple #[.int .i64 s.size, .nilIface]) ∧ Bld B b (l ++ s.data.toList) w' ∧ Below B w w' ∧ KeepB b w w' :=
  writeString_kbig B b l s w h (Nat.le_trans hlen (by decide)) hBw

end Go.Proofs.YtmcelgokchhpfaaGreatDoor
