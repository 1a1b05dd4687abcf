/-
  strings.Builder: writing into one that the call has made.
-/
import Derived.Test.YtmcelgokchhpfaaGreatDoorBytes
import Derived.Lib.Builder
import Derived.Lib.AppendStr
import Derived.Outline
import Derived.Deep.DeepMust
namespace Go.Proofs.YtmcelgokchhpfaaGreatDoor
open Go.RowKit

theorem info_byte : (Tryz.prog.info? 5).map (fun i => (i.zero, i.size, i.bytes)) = some (some (.int .u8 0), 1, 1) := by kernel_rfl
theorem size_builder : (Tryz.prog.info? 75).map (·.size) = some 2 := by kernel_rfl
theorem lies_builder : liesAt Tryz.prog Tryz.prog.depth 75 (2 / Tryz.prog.cellsOf 75) 0 75 1 = true := by kernel_rfl

/-- a builder in block b that holds those bytes -/
abbrev Bld (B b : Nat) (l : List UInt8) (w : World) : Prop := Lib.IsBuilder 75 5 B b (byteCells l) w

set_option maxRecDepth 100000 in
theorem copyCheck_used (b : Nat) (w : World) (h0 : w.cell? ⟨b, 0, none⟩ = some (.pointer (some ⟨b, 0, none⟩))) :
    Calls Tryz.prog 66 #[.pointer (some ⟨b, 0, none⟩)] w fun e w' => e = .returned (.tuple #[]) ∧ w = w' := by
  obtain ⟨j, hj, _⟩ := Option.map_eq_some_iff.1 size_builder
  have hne := Lib.run_neq_ptr_same (P := Tryz.prog) w ⟨b, 0, none⟩ Tryz.underlying72 hj
  go_enter Tryz.func66, Tryz.ntmps66
  go_wp2
  go_end0
  exact ⟨rfl, rfl⟩

set_option maxRecDepth 100000 in
theorem copyCheck_fresh (b : Nat) (w : World) (h0 : w.cell? ⟨b, 0, none⟩ = some (.pointer none)) (hsh : w.shape? b = some (75, 2)) (hfz : w.frozen? ⟨b, 0, none⟩ = false) :
    Calls Tryz.prog 66 #[.pointer (some ⟨b, 0, none⟩)] w fun e w' => e = .returned (.tuple #[]) ∧ w.setCell ⟨b, 0, none⟩ (.pointer (some ⟨b, 0, none⟩)) = w' := by
  obtain ⟨j, hj, hjs⟩ := Option.map_eq_some_iff.1 size_builder
  have h1 := Lib.run_to_unsafe (P := Tryz.prog) w ⟨b, 0, none⟩ Tryz.underlying72 Tryz.underlying59 hj (by rw [hjs]; decide) hsh (Nat.zero_lt_succ 1)
  have h2 := Lib.run_from_unsafe (P := Tryz.prog) w ⟨b, 0, none⟩ Tryz.underlying59 Tryz.underlying72 hj hsh lies_builder
  have h3 := run_callFunc_extern (P := Tryz.prog) Tryz.func77 (by kernel_rfl) (by kernel_rfl) (by kernel_rfl) (e := Extern.AbiNoEscape.same) (by kernel_rfl)
  have h4 := fun x : Value => Lib.run_noEscape (P := Tryz.prog) w x
  go_enter Tryz.func66, Tryz.ntmps66
  go_wp2
  go_end0
  exact ⟨rfl, rfl⟩

/-- a builder is used: its bytes are as they were -/
theorem copyCheck_any (B b : Nat) (bs : List Value) (w : World) (h : Lib.IsBuilder 75 5 B b bs w) :
    Calls Tryz.prog 66 #[.pointer (some ⟨b, 0, none⟩)] w fun e w' => e = .returned (.tuple #[]) ∧ Lib.BuilderAt 75 5 B b (.pointer (some ⟨b, 0, none⟩)) bs w' ∧ Below B w w' := by
  rcases h with h | h
  · refine (copyCheck_fresh b w h.cell0 h.shape h.frozen0).mono fun e w' ⟨he, hw⟩ => ?_
    subst hw
    exact ⟨he, h.used _, (Below.refl _ _).setCell (p := ⟨b, 0, none⟩) h.1 _⟩
  · refine (copyCheck_used b w h.cell0).mono fun e w' ⟨he, hw⟩ => ?_
    subst hw
    exact ⟨he, h, Below.refl _ _⟩

theorem neB5 : (75 : TypeId) ≠ 5 := by decide

theorem bld_lt {B b : Nat} {bs : List Value} {w : World} (h : Lib.IsBuilder 75 5 B b bs w) : b < w.heap.size ∧ B ≤ b := by
  rcases h with h | h
  · exact ⟨h.lt, h.1⟩
  · exact ⟨h.lt, h.1⟩

/-- a builder stays as it is where only newer memory has turned -/
theorem bld_below {B b : Nat} {bs : List Value} {w w' : World} (h : Lib.IsBuilder 75 5 B b bs w) (hb : Below w.heap.size w w') : Lib.IsBuilder 75 5 B b bs w' := by
  have key : ∀ p, Lib.BuilderAt 75 5 B b p bs w → Lib.BuilderAt 75 5 B b p bs w' := by
    rintro p ⟨hB, v, hbk, hown, hne⟩
    have hlt : b < w.heap.size := (Array.getElem?_eq_some_iff.1 hbk).1
    exact ⟨hB, v, (hb.block b hlt).trans hbk, hown.kept (row := none) ⟨hb.os, hb.tape, hb.output, hb.size, fun k hk _ => hb.block k hk⟩ (by cases hv : v.ownBlock <;> simp), hne⟩
  exact h.imp (key _) (key _)

set_option maxRecDepth 100000 in
set_option maxHeartbeats 1000000 in
theorem writeString_big (B b : Nat) (l : List UInt8) (s : ByteArray) (w : World) (h : Bld B b l w) (hlen : l.length + s.size ≤ 70368744177664) (hBw : B ≤ w.heap.size) :
    Calls Tryz.prog 33 #[.pointer (some ⟨b, 0, none⟩), .string s] w fun e w' => e = .returned (.tuple #[.int .i64 s.size, .nilIface]) ∧ Bld B b (l ++ s.data.toList) w' ∧ Below B w w' := by
  obtain ⟨i0, hi, hz0, hz1, hz2⟩ := info_parts info_byte
  have hcp := copyCheck_any B b _ w h
  have HC := Lib.hid hcp; clear hcp
  go_enter Tryz.func33, Tryz.ntmps33
  go_wp2_with fail
  refine HC.out.mono ?_
  rintro e w1 ⟨rfl, ⟨hB, v, hbk, hown, hne⟩, hb1⟩
  have hnl : (byteCells l).length = l.length := by simp [byteCells]
  rw [hnl] at hown
  have c0 : w1.cell? ⟨b, 0, none⟩ = some (.pointer (some ⟨b, 0, none⟩)) := by rw [Lib.cell_of_heap hbk]; rfl
  have c1 : w1.cell? ⟨b, 1, none⟩ = some v := by rw [Lib.cell_of_heap hbk]; rfl
  have hz := hb1.size
  have HB1 := Lib.hid hb1; clear hb1
  have hlt : b < w1.heap.size := (Array.getElem?_eq_some_iff.1 hbk).1
  have HBk := Lib.hid hbk; clear hbk
  have HNe := Lib.hid hne; clear hne
  have HOwn := Lib.hid hown; clear hown
  clear h hnl
  obtain ⟨A1, cc, rfl, hc1, hc2, hc3⟩ := own_form HOwn.out
  clear hc1 hc2 hc3
  go_wp2_with (at_builtin; go_must (refine Lib.wpList_append_own_string _ rfl _ _ 73 9 rfl B 5 i0 Tryz.underlying73 Tryz.underlying9 hi hz0 hz1 hz2 _ _ _ rfl HOwn.out s rfl ?c3 ?c4 ?c5 ?_))
  case c3 => unfold maxLen; omega
  case c4 => omega
  case c5 => omega
  intro v' w2 hown' hgrow _
  have hb2 : w2.heap[b]? = some (.cells #[.pointer (some ⟨b, 0, none⟩), .slice A1 l.length cc] 75 (0, 0)) := by
    rw [hgrow.block b hlt (fun e => HNe.out e.symm)]
    exact HBk.out
  have d0 : w2.cell? ⟨b, 0, none⟩ = some (.pointer (some ⟨b, 0, none⟩)) := by rw [Lib.cell_of_heap hb2]; rfl
  have d1 : w2.cell? ⟨b, 1, none⟩ = some (.slice A1 l.length cc) := by rw [Lib.cell_of_heap hb2]; rfl
  have f1 : w2.frozen? ⟨b, 1, none⟩ = false := Lib.frozen_of_heap hb2 1
  have HO2 := Lib.hid hown'; clear hown'
  have HB2 := Lib.hid hb2; clear hb2
  have HG := Lib.hid (HB1.out.grown hgrow (by omega) (fun k hk => (HOwn.out.lt k hk).1)); clear hgrow
  obtain ⟨A2, c2, rfl, hc1, hc2, hc3⟩ := own_form HO2.out
  clear hc1 hc2 hc3
  go_wp2_with fail
  go_ret2
  refine ⟨rfl, Or.inr ?_, HG.out.setCell (p := ⟨b, 1, none⟩) hB _⟩
  have hcells : byteCells (l ++ s.data.toList) = byteCells l ++ Lib.strCells s := by simp [byteCells, Lib.strCells]
  rw [hcells]
  exact Lib.BuilderAt.put hB HB2.out (bs' := byteCells l ++ Lib.strCells s) (by have := HO2.out; rw [List.length_append, Lib.strCells_length]; simpa [byteCells] using this) neB5

theorem writeString_any (B b : Nat) (l : List UInt8) (s : ByteArray) (w : World) (h : Bld B b l w) (hlen : l.length + s.size ≤ 1073741824) (hBw : B ≤ w.heap.size) :
    Calls Tryz.prog 33 #[.pointer (some ⟨b, 0, none⟩), .string s] w fun e w' => e = .returned (.tuple #[.int .i64 s.size, .nilIface]) ∧ Bld B b (l ++ s.data.toList) w' ∧ Below B w w' :=
  writeString_big B b l s w h (Nat.le_trans hlen (by decide)) hBw

end Go.Proofs.YtmcelgokchhpfaaGreatDoor
