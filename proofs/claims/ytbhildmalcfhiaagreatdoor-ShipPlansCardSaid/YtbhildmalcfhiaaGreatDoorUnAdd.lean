/-
  (*strings.trieNode).add: a leaf, a fresh node, a node with a table.
-/
import Derived.Test.YtbhildmalcfhiaaGreatDoorLookup
import Derived.WalkSpells
import Derived.Handy
import Derived.BigQuiet
import Derived.StillTail
import Derived.StillTailTactics
namespace Go.Proofs.YtbhildmalcfhiaaGreatDoor
open Go.RowKit Go.Deep

/-- a node's cells -/
def nodeC (v : ByteArray) (p : Int) (pre : ByteArray) (nx : Option Addr) (tbl : Value) : Array Value := #[.string v, .int .i64 p, .string pre, .pointer nx, tbl]
abbrev noTbl : Value := .slice none 0 0
abbrev emptyS : ByteArray := ⟨#[]⟩
def AddRes (n : Nat) (w : World) (R : World → Prop) (e : Ending) (w' : World) : Prop := e = .returned (.tuple #[]) ∧ R w' ∧ w.grownBy w' (some n)
theorem grown_newU {w W w5 : World} {n L : Nat} (h : w.grownBy W (some n)) (h5 : W.grownBy w5 (some L)) (hL : w.heap.size ≤ L) : w.grownBy w5 (some n) :=
  ⟨h5.os.trans h.os, h5.tape.trans h.tape, h5.output.trans h.output, Nat.le_trans h.size h5.size, fun k hk hne => (h5.block k (Nat.lt_of_lt_of_le hk h.size) (by simp; omega)).trans (h.block k hk hne)⟩
theorem grown_set {w0 w : World} {n : Nat} (h : w0.grownBy w (some n)) (o : Nat) (v : Value) : w0.grownBy (w.setCell ⟨n, o, none⟩ v) (some n) := h.trans (grown_setB w n o v)

set_option maxRecDepth 100000 in
set_option maxHeartbeats 2000000 in
theorem addLeaf_q (n : Nat) (v : ByteArray) (p : Int) (r : Value) (w : World) (hc : CB w n 287 (nodeC emptyS 0 emptyS none noTbl)) :
    Calls Tryz.prog 232 #[.pointer (some ⟨n, 0, none⟩), .string ⟨#[]⟩, .string v, .int .i64 p, r] w (AddRes n w fun w' => CB w' n 287 (nodeC v p emptyS none noTbl)) := by
  have c1 : w.cell? ⟨n, 1, none⟩ = some (.int .i64 0) := (hc.c 1).trans rfl
  have f0 := hc.f 0
  have f1 := hc.f 1
  have c0 : w.cell? ⟨n, 0, none⟩ = some (.string emptyS) := (hc.c 0).trans rfl
  have HC := Lib.hid hc; clear hc
  go_enter Tryz.func232, Tryz.ntmps232
  go_wp2_with fail
  go_end0
  exact ⟨rfl, (HC.out.put 0 _).put 1 _, (grown_setB w n 0 _).trans (grown_setB _ n 1 _)⟩

set_option maxRecDepth 100000 in
set_option maxHeartbeats 2000000 in
theorem addFresh_q (n : Nat) (key v : ByteArray) (p : Int) (r : Value) (w : World) (hk : 0 < key.size) (hc : CB w n 287 (nodeC emptyS 0 emptyS none noTbl)) :
    Calls Tryz.prog 232 #[.pointer (some ⟨n, 0, none⟩), .string key, .string v, .int .i64 p, r] w (AddRes n w fun w' => ∃ L, w.heap.size ≤ L ∧ CB w' n 287 (nodeC emptyS 0 key (some ⟨L, 0, none⟩) noTbl) ∧ CB w' L 287 (nodeC v p emptyS none noTbl)) := by
  have c0 : w.cell? ⟨n, 0, none⟩ = some (.string emptyS) := (hc.c 0).trans rfl
  have c1 : w.cell? ⟨n, 1, none⟩ = some (.int .i64 0) := (hc.c 1).trans rfl
  have c2 : w.cell? ⟨n, 2, none⟩ = some (.string emptyS) := (hc.c 2).trans rfl
  have c3 : w.cell? ⟨n, 3, none⟩ = some (.pointer none) := (hc.c 3).trans rfl
  have c4 : w.cell? ⟨n, 4, none⟩ = some (.slice none 0 0) := (hc.c 4).trans rfl
  have f2 := hc.f 2
  have f3 := hc.f 3
  have hlt := hc.lt
  have HC := Lib.hid hc; clear hc
  have hnn := fun (wx : World) (a : Option Addr) (n c n' c' : Nat) => run_neq_slice_nil_any (P := Tryz.prog) wx 285 _ a n c n' c' Tryz.underlying285
  obtain ⟨g1, g2, g3, g4⟩ := nonempty_u hk
  go_enter Tryz.func232, Tryz.ntmps232
  go_wp2_with fail
  have hS : (w.setCell ⟨n, 2, none⟩ (.string key)).heap.size = w.heap.size := World.size_setCell _ _ _
  have hG : w.grownBy (((w.setCell ⟨n, 2, none⟩ (.string key)).setCell ⟨n, 3, none⟩ (.pointer (some ⟨w.heap.size, 0, none⟩))).alloc (.cells (nodeC emptyS 0 emptyS none noTbl) 287)) (some n) := (grown_set (grown_setB w n 2 _) 3 _).trans (World.grownBy_alloc _ _ _)
  have hN := ((HC.out.put 2 (.string key)).put 3 (.pointer (some ⟨w.heap.size, 0, none⟩))).alloc (.cells (nodeC emptyS 0 emptyS none noTbl) 287)
  have hL : CB (((w.setCell ⟨n, 2, none⟩ (.string key)).setCell ⟨n, 3, none⟩ (.pointer (some ⟨w.heap.size, 0, none⟩))).alloc (.cells (nodeC emptyS 0 emptyS none noTbl) 287)) w.heap.size 287 (nodeC emptyS 0 emptyS none noTbl) := by
    have h9 := CB.new ((w.setCell ⟨n, 2, none⟩ (.string key)).setCell ⟨n, 3, none⟩ (.pointer (some ⟨w.heap.size, 0, none⟩))) (nodeC emptyS 0 emptyS none noTbl) 287
    rw [World.size_setCell, World.size_setCell] at h9
    exact h9
  have HG := Lib.hid hG; have HN := Lib.hid hN; have HL := Lib.hid hL
  clear hG hN hL hS
  refine (addLeaf_q w.heap.size v p r _ HL.out).mono ?_
  rintro e w5 ⟨rfl, h5, hg5⟩
  have H5 := Lib.hid h5; have HG5 := Lib.hid hg5
  clear h5 hg5
  go_wp2_with fail
  go_end0
  exact ⟨rfl, ⟨w.heap.size, Nat.le_refl _, HN.out.other HG5.out (by simp; omega), H5.out⟩, grown_newU HG.out HG5.out (Nat.le_refl _)⟩

set_option maxRecDepth 100000 in
set_option maxHeartbeats 2000000 in
theorem addVia_q (n b ta K m : Nat) (c : UInt8) (key rest v : ByteArray) (p : Int) (R : World → Prop) (w : World) (hk : 0 < key.size) (hc : key[0]'hk = c) (hr : key.extract 1 key.size = rest)
    (c2 : w.cell? ⟨n, 2, none⟩ = some (.string emptyS)) (c4 : w.cell? ⟨n, 4, none⟩ = some (.slice (some ⟨ta, 0, none⟩) 14 14)) (hm : m < 14) (hmap : w.cell? ⟨b, 6 + c.toNat, none⟩ = some (.int .u8 m)) (ht : w.cell? ⟨ta, m, none⟩ = some (.pointer (some ⟨K, 0, none⟩)))
    (h : ∀ q, Calls Tryz.prog 232 #[.pointer (some ⟨K, 0, none⟩), .string rest, .string v, .int .i64 p, .pointer (some ⟨b, 0, none⟩)] (w.drewN q) (fun e w' => e = .returned (.tuple #[]) ∧ R w')) :
    Calls Tryz.prog 232 #[.pointer (some ⟨n, 0, none⟩), .string key, .string v, .int .i64 p, .pointer (some ⟨b, 0, none⟩)] w (fun e w' => e = .returned (.tuple #[]) ∧ R w') := by
  have hnn := fun (wx : World) (a : Option Addr) (n c n' c' : Nat) => run_neq_slice_nil_any (P := Tryz.prog) wx 285 _ a n c n' c' Tryz.underlying285
  obtain ⟨g1, g2, g3, g4⟩ := nonempty_u hk
  have hc256 : c.toNat < 256 := c.toNat_lt
  have hc256i : (c.toNat : Int) < 256 := by omega
  have hI1 : (1 : Int) ≤ (key.size : Int) := by omega
  have hmi : (m : Int) < 14 := by omega
  have H := Lib.hid h; clear h
  go_enter Tryz.func232, Tryz.ntmps232
  go_wp2_with fail
  go_quiet (fail)
  go_wp2_with fail
  obtain ⟨W0, hW0⟩ : ∃ W, w.drewN nq = W := ⟨_, rfl⟩
  have d4 : W0.cell? ⟨n, 4, none⟩ = some (.slice (some ⟨ta, 0, none⟩) 14 14) := by rw [← hW0]; exact c4
  have dt : W0.cell? ⟨ta, m, none⟩ = some (.pointer (some ⟨K, 0, none⟩)) := by rw [← hW0]; exact ht
  have HW1 := Lib.hid (show World.drew W0 = w.drewN (nq + 1) by rw [← hW0]; rfl)
  rw [hW0]
  clear c4 ht hW0
  go_still_tail 12, (by kernel_rfl)
  change wpList _ _ _ _ _ (World.drew W0)
  rw [HW1.out]
  clear HW1 d4 dt
  go_wp2_with (go_at_call 232; go_must (refine (H.out _).mono ?_); rintro e w5 ⟨rfl, h5⟩; have H5 := Lib.hid h5; clear h5)
  go_end0
  exact ⟨rfl, H5.out⟩

set_option maxRecDepth 100000 in
set_option maxHeartbeats 2000000 in
theorem addKid_q (n b ta m : Nat) (c : UInt8) (key rest v : ByteArray) (p : Int) (cs : Array Value) (w : World) (hk : 0 < key.size) (hc : key[0]'hk = c) (hr : key.extract 1 key.size = rest) (hr0 : 0 < rest.size)
    (c2 : w.cell? ⟨n, 2, none⟩ = some (.string emptyS)) (c4 : w.cell? ⟨n, 4, none⟩ = some (.slice (some ⟨ta, 0, none⟩) 14 14)) (hnt : n ≠ ta) (hm : m < 14) (hmap : w.cell? ⟨b, 6 + c.toNat, none⟩ = some (.int .u8 m)) (ht : CB w ta 284 cs) (hz : cs.size = 14) (hx : cs[m]? = some (.pointer none)) :
    Calls Tryz.prog 232 #[.pointer (some ⟨n, 0, none⟩), .string key, .string v, .int .i64 p, .pointer (some ⟨b, 0, none⟩)] w (AddRes ta w fun w' => ∃ K L, w.heap.size ≤ K ∧ w.heap.size ≤ L ∧ CB w' ta 284 (cs.setIfInBounds m (.pointer (some ⟨K, 0, none⟩))) ∧ CB w' K 287 (nodeC emptyS 0 rest (some ⟨L, 0, none⟩) noTbl) ∧ CB w' L 287 (nodeC v p emptyS none noTbl)) := by
  have hnn := fun (wx : World) (a : Option Addr) (n c n' c' : Nat) => run_neq_slice_nil_any (P := Tryz.prog) wx 285 _ a n c n' c' Tryz.underlying285
  obtain ⟨g1, g2, g3, g4⟩ := nonempty_u hk
  have hc256 : c.toNat < 256 := c.toNat_lt
  have hc256i : (c.toNat : Int) < 256 := by omega
  have hI1 : (1 : Int) ≤ (key.size : Int) := by omega
  have hmi : (m : Int) < 14 := by omega
  have ct := (ht.c m).trans hx
  have ft := ht.f m
  have hlt := ht.lt
  have HT := Lib.hid ht; clear ht
  have HZ := Lib.hid hz; clear hz
  have HX := Lib.hid hx; clear hx
  go_enter Tryz.func232, Tryz.ntmps232
  go_wp2_with fail
  go_quiet (fail)
  have ft1 : ∀ o : Obj, ((w.drewN nq).alloc o).frozen? ⟨ta, m, none⟩ = false := fun o => ((HT.out.drewN nq).alloc o).f m
  have ct1 : ∀ o : Obj, ((w.drewN nq).alloc o).cell? ⟨ta, m, none⟩ = some (.pointer none) := fun o => (((HT.out.drewN nq).alloc o).c m).trans HX.out
  go_wp2_with fail
  obtain ⟨W0, hW0⟩ : ∃ W, ((w.drewN nq).alloc (.cells #[.string ⟨#[]⟩, .int .i64 0, .string ⟨#[]⟩, .pointer none, .slice none 0 0] 287)).setCell ⟨ta, m, none⟩ (.pointer (some ⟨w.heap.size, 0, none⟩)) = W := ⟨_, rfl⟩
  have hG : w.grownBy W0 (some ta) := by
    rw [← hW0]
    exact (show w.grownBy (w.drewN nq) (some ta) from ⟨rfl, rfl, rfl, Nat.le_refl _, fun _ _ _ => rfl⟩).trans ((World.grownBy_alloc _ _ _).trans (grown_setB _ ta m _))
  have hC0 : CB W0 ta 284 (cs.setIfInBounds m (.pointer (some ⟨w.heap.size, 0, none⟩))) := by
    rw [← hW0]
    exact ((HT.out.drewN nq).alloc _).put m _
  have hN0 : CB W0 w.heap.size 287 (nodeC emptyS 0 emptyS none noTbl) := by
    rw [← hW0]
    exact (CB.new (w.drewN nq) (nodeC emptyS 0 emptyS none noTbl) 287).other (grown_setB _ ta m _) (by simp; omega)
  have d4 : W0.cell? ⟨n, 4, none⟩ = some (.slice (some ⟨ta, 0, none⟩) 14 14) := hG.cell c4 (by simpa using hnt)
  have dt : W0.cell? ⟨ta, m, none⟩ = some (.pointer (some ⟨w.heap.size, 0, none⟩)) := (hC0.c m).trans (by
    rw [Array.getElem?_setIfInBounds_self, if_pos (by rw [HZ.out]; exact hm)])
  have hs0 : w.heap.size ≤ W0.heap.size := hG.size
  have HG := Lib.hid hG; have HC0 := Lib.hid hC0; have HN0 := Lib.hid hN0
  clear hG hC0 hN0
  rw [hW0]
  clear c4 ct hW0
  go_still_tail 12, (by kernel_rfl)
  change wpList _ _ _ _ _ (World.drew W0)
  clear d4 dt
  go_wp2_with (go_at_call 232; go_must (refine (addFresh_q w.heap.size rest v p _ _ hr0 HN0.out.drew).mono ?_); rintro e w5 ⟨rfl, ⟨L, hL, h5, h6⟩, hg5⟩; have H5 := Lib.hid h5; clear h5; have H6 := Lib.hid h6; clear h6; have HG5 := Lib.hid hg5; clear hg5)
  go_end0
  exact ⟨rfl, ⟨w.heap.size, L, Nat.le_refl _, Nat.le_trans hs0 hL, HC0.out.drew.other HG5.out (by simp; omega), H5.out, H6.out⟩, grown_newU (show w.grownBy W0.drew (some ta) from HG.out.trans ⟨rfl, rfl, rfl, Nat.le_refl _, fun _ _ _ => rfl⟩) HG5.out (Nat.le_refl _)⟩

end Go.Proofs.YtbhildmalcfhiaaGreatDoor
