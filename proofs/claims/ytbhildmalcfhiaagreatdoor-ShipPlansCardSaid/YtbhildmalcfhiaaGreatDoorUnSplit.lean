/-
  (*strings.trieNode).add where the second name splits the first one's prefix.
-/
import Derived.Test.YtbhildmalcfhiaaGreatDoorUnAdd
import Derived.Deep.Cut
import Derived.Deep.CutRange
namespace Go.Proofs.YtbhildmalcfhiaaGreatDoor
open Go.RowKit Go.Deep

abbrev ampS : ByteArray := ⟨#[97, 109, 112, 59]⟩
abbrev ltS : ByteArray := ⟨#[108, 116, 59]⟩
abbrev ltV : ByteArray := ⟨#[60]⟩
def nilRow : Array Value := (List.replicate 14 (Value.pointer none)).toArray
theorem cell_setO {W : World} {a b k o : Nat} {v : Value} (h : W.cell? ⟨b, o, none⟩ = some v) (hne : b ≠ a) (x : Value) : (W.setCell ⟨a, k, none⟩ x).cell? ⟨b, o, none⟩ = some v :=
  (World.cell?_setCell_other _ _ _ _ (fun e => hne (by have := congrArg Addr.block e; simpa using this.symm))).trans h
theorem cell_allocO {W : World} {b o : Nat} {v : Value} (h : W.cell? ⟨b, o, none⟩ = some v) (x : Obj) : (W.alloc x).cell? ⟨b, o, none⟩ = some v :=
  (World.cell?_alloc_past _ _ _ (World.block_lt_of_cell? _ _ h)).trans h
theorem makeRow (W : World) : (Instr.makeSlice 285 (.int .i64 14) (.int .i64 14)).run Tryz.prog W = .ok (.slice (some ⟨W.heap.size, 0, none⟩) 14 14) (W.alloc (.cells nilRow 284)) := by kernel_rfl

set_option maxRecDepth 100000 in
set_option maxHeartbeats 4000000 in
theorem addSplit_q (a b N : Nat) (w : World) (hA : CB w a 287 (nodeC emptyS 0 ampS (some ⟨N, 0, none⟩) noTbl)) (hab : b ≠ a) (hbl : b < w.heap.size)
    (b5 : w.cell? ⟨b, 5, none⟩ = some (.int .i64 14)) (bm1 : w.cell? ⟨b, 103, none⟩ = some (.int .u8 5)) (bm2 : w.cell? ⟨b, 114, none⟩ = some (.int .u8 7)) :
    Calls Tryz.prog 232 #[.pointer (some ⟨a, 0, none⟩), .string ltS, .string ltV, .int .i64 8, .pointer (some ⟨b, 0, none⟩)] w (AddRes a w fun w' => ∃ ta M K L, w.heap.size ≤ ta ∧ w.heap.size ≤ M ∧ w.heap.size ≤ K ∧ w.heap.size ≤ L
      ∧ CB w' a 287 (nodeC emptyS 0 emptyS none (.slice (some ⟨ta, 0, none⟩) 14 14)) ∧ CB w' ta 284 ((nilRow.setIfInBounds 5 (.pointer (some ⟨M, 0, none⟩))).setIfInBounds 7 (.pointer (some ⟨K, 0, none⟩)))
      ∧ CB w' M 287 (nodeC emptyS 0 ⟨#[109, 112, 59]⟩ (some ⟨N, 0, none⟩) noTbl) ∧ CB w' K 287 (nodeC emptyS 0 ⟨#[116, 59]⟩ (some ⟨L, 0, none⟩) noTbl) ∧ CB w' L 287 (nodeC ltV 8 emptyS none noTbl)) := by
  have hnn := fun (wx : World) (a : Option Addr) (n c n' c' : Nat) => run_neq_slice_nil_any (P := Tryz.prog) wx 285 _ a n c n' c' Tryz.underlying285
  have a2 : w.cell? ⟨a, 2, none⟩ = some (.string ampS) := (hA.c 2).trans rfl
  have a3 : w.cell? ⟨a, 3, none⟩ = some (.pointer (some ⟨N, 0, none⟩)) := (hA.c 3).trans rfl
  have a4 : w.cell? ⟨a, 4, none⟩ = some (.slice none 0 0) := (hA.c 4).trans rfl
  have e0 : ∀ h : 0 < ampS.size, (ampS[0]'h) = 97 := fun _ => rfl
  have e1 : ∀ h : 0 < ampS.size, ((ampS[0]'h).toNat : Int) = 97 := fun _ => rfl
  have e2 : ∀ h : 0 < ltS.size, (ltS[0]'h) = 108 := fun _ => rfl
  have e3 : ∀ h : 0 < ltS.size, ((ltS[0]'h).toNat : Int) = 108 := fun _ => rfl
  have s0 : ampS.size = 4 := rfl
  have s1 : ltS.size = 3 := rfl
  have x0 : ampS.extract 1 4 = ⟨#[109, 112, 59]⟩ := by decide
  have x1 : ltS.extract 1 3 = ⟨#[116, 59]⟩ := by decide
  have hmk := makeRow
  have alt := hA.lt
  have HA := Lib.hid hA; clear hA
  go_enter Tryz.func232, Tryz.ntmps232
  go_wp2_with fail
  go_loopw [10] (fun t wr => t = .int .i64 0 ∧ EqW wr w) (fun _ _ => 0)
  case atStart => exact ⟨rfl, EqW.refl _⟩
  case round =>
    obtain ⟨rfl, hww⟩ := hrel
    unfold EqW at hww
    subst hww
    go_wp2_with fail
    go_quiet (fail)
    go_wp2_with fail
    obtain ⟨W1, hW1⟩ : ∃ W, wr.drewN nq = W := ⟨_, rfl⟩
    have d2 : W1.cell? ⟨a, 2, none⟩ = some (.string ampS) := by rw [← hW1]; exact a2
    have d3 : W1.cell? ⟨a, 3, none⟩ = some (.pointer (some ⟨N, 0, none⟩)) := by rw [← hW1]; exact a3
    obtain ⟨W2, hW2⟩ : ∃ W, World.drew W1 = W := ⟨_, rfl⟩
    have HA2 := Lib.hid (show CB W2 a 287 (nodeC emptyS 0 ampS (some ⟨N, 0, none⟩) noTbl) by rw [← hW2, ← hW1]; exact (HA.out.drewN nq).drew)
    have HG2 := Lib.hid (show wr.grownBy W2 (some a) by rw [← hW2, ← hW1]; exact ⟨rfl, rfl, rfl, Nat.le_refl _, fun _ _ _ => rfl⟩)
    have HS2 := Lib.hid (show W2.heap.size = wr.heap.size by rw [← hW2, ← hW1]; rfl)
    have y5 : W2.cell? ⟨b, 5, none⟩ = some (.int .i64 14) := by rw [← hW2, ← hW1]; exact b5
    have y6 : W2.cell? ⟨b, 103, none⟩ = some (.int .u8 5) := by rw [← hW2, ← hW1]; exact bm1
    have y7 : W2.cell? ⟨b, 114, none⟩ = some (.int .u8 7) := by rw [← hW2, ← hW1]; exact bm2
    have y2 : W2.cell? ⟨a, 2, none⟩ = some (.string ampS) := (HA2.out.c 2).trans rfl
    have y3 : W2.cell? ⟨a, 3, none⟩ = some (.pointer (some ⟨N, 0, none⟩)) := (HA2.out.c 3).trans rfl
    have y4 : W2.cell? ⟨a, 4, none⟩ = some (.slice none 0 0) := (HA2.out.c 4).trans rfl
    have z4 := HA2.out.f 4
    have z2 := HA2.out.f 2
    have z3 := HA2.out.f 3
    have hbl2 : b < W2.heap.size := by rw [HS2.out]; exact hbl
    have hal2 : a < W2.heap.size := HA2.out.lt
    clear a2 a3 a4 b5 bm1 bm2
    rw [hW1]
    clear hW1
    go_still_tail 10, (by kernel_rfl)
    change wpList _ _ _ _ _ (World.drew W1)
    rw [hW2]
    clear hW2 d2 d3
    go_upto_region 17 with (fail)
    obtain ⟨W3, hW3⟩ : ∃ W, (W2.alloc (.cells #[.string ⟨#[]⟩, .int .i64 0, .string ⟨#[109, 112, 59]⟩, .pointer (some ⟨N, 0, none⟩), .slice none 0 0] 287)).alloc (.cells #[.string ⟨#[]⟩, .int .i64 0, .string ⟨#[]⟩, .pointer none, .slice none 0 0] 287) = W := ⟨_, rfl⟩
    have HS3 := Lib.hid (show W3.heap.size = W2.heap.size + 1 + 1 by rw [← hW3, World.size_alloc, World.size_alloc])
    have HA3 := Lib.hid (show CB W3 a 287 (nodeC emptyS 0 ampS (some ⟨N, 0, none⟩) noTbl) by rw [← hW3]; exact (HA2.out.alloc _).alloc _)
    have HM3 := Lib.hid (show CB W3 W2.heap.size 287 (nodeC emptyS 0 ⟨#[109, 112, 59]⟩ (some ⟨N, 0, none⟩) noTbl) by rw [← hW3]; exact (CB.new _ _ _).alloc _)
    have HK3 := Lib.hid (show CB W3 (W2.heap.size + 1) 287 (nodeC emptyS 0 emptyS none noTbl) by
      have h9 := CB.new (W2.alloc (.cells #[.string ⟨#[]⟩, .int .i64 0, .string ⟨#[109, 112, 59]⟩, .pointer (some ⟨N, 0, none⟩), .slice none 0 0] 287)) (nodeC emptyS 0 emptyS none noTbl) 287
      rw [World.size_alloc] at h9
      rw [← hW3]; exact h9)
    have HG3 := Lib.hid (show wr.grownBy W3 (some a) by rw [← hW3]; exact HG2.out.trans ((World.grownBy_alloc _ _ _).trans (World.grownBy_alloc _ _ _)))
    have hne : ∀ o, (⟨b, o, none⟩ : Addr).block ≠ a := fun _ => hab
    have y53 : W3.cell? ⟨b, 5, none⟩ = some (.int .i64 14) := by rw [← hW3, World.cell?_alloc_past _ _ _ (by rw [World.size_alloc]; omega), World.cell?_alloc_past _ _ _ hbl2]; exact y5
    have y63 : W3.cell? ⟨b, 103, none⟩ = some (.int .u8 5) := by rw [← hW3, World.cell?_alloc_past _ _ _ (by rw [World.size_alloc]; omega), World.cell?_alloc_past _ _ _ hbl2]; exact y6
    have y73 : W3.cell? ⟨b, 114, none⟩ = some (.int .u8 7) := by rw [← hW3, World.cell?_alloc_past _ _ _ (by rw [World.size_alloc]; omega), World.cell?_alloc_past _ _ _ hbl2]; exact y7
    rw [hW3]
    clear hW3 y2 y3 y4 y5 y6 y7 z2 z3 z4
    have c4 : ∀ o : Obj, (W3.alloc o).cell? ⟨a, 4, none⟩ = some (.slice none 0 0) := fun o => ((HA3.out.alloc o).c 4).trans rfl
    have f4 : ∀ o : Obj, (W3.alloc o).frozen? ⟨a, 4, none⟩ = false := fun o => (HA3.out.alloc o).f 4
    go_wp2_with fail
    obtain ⟨bM, hbM⟩ : ∃ n, W2.heap.size = n := ⟨_, rfl⟩
    obtain ⟨bK, hbK⟩ : ∃ n, bM + 1 = n := ⟨_, rfl⟩
    obtain ⟨ta, hta⟩ : ∃ n, W3.heap.size = n := ⟨_, rfl⟩
    have hbk : bK + 1 = ta := by rw [← hta, ← hbK, ← hbM, HS3.out]
    have haM : bM ≠ a := by omega
    have haK : bK ≠ a := by omega
    have haT : ta ≠ a := by omega
    have hTM : bM ≠ ta := by omega
    have hTK : bK ≠ ta := by omega
    have hTa : a ≠ ta := by omega
    have hTb : b ≠ ta := by omega
    have hKM : bM ≠ bK := by omega
    have hKa : a ≠ bK := by omega
    have hKT : ta ≠ bK := by omega
    rw [hbM] at HM3
    rw [hbM, hbK] at HK3
    obtain ⟨W4, hW4⟩ : ∃ W, (W3.alloc (.cells nilRow 284)).setCell ⟨a, 4, none⟩ (.slice (some ⟨ta, 0, none⟩) 14 14) = W := ⟨_, rfl⟩
    obtain ⟨W5, hW5⟩ : ∃ W, World.drew W4 = W := ⟨_, rfl⟩
    have HA5 := Lib.hid (show CB W5 a 287 (nodeC emptyS 0 ampS (some ⟨N, 0, none⟩) (.slice (some ⟨ta, 0, none⟩) 14 14)) by rw [← hW5, ← hW4]; exact ((HA3.out.alloc _).put 4 _).drew)
    have HM5 := Lib.hid (show CB W5 bM 287 (nodeC emptyS 0 ⟨#[109, 112, 59]⟩ (some ⟨N, 0, none⟩) noTbl) by rw [← hW5, ← hW4]; exact ((HM3.out.alloc _).other (grown_setB _ a 4 _) (by simpa using haM)).drew)
    have HK5 := Lib.hid (show CB W5 bK 287 (nodeC emptyS 0 emptyS none noTbl) by rw [← hW5, ← hW4]; exact ((HK3.out.alloc _).other (grown_setB _ a 4 _) (by simpa using haK)).drew)
    have HR5 := Lib.hid (show CB W5 ta 284 nilRow by rw [← hW5, ← hW4, ← hta]; exact ((CB.new _ _ _).other (grown_setB _ a 4 _) (by rw [hta]; simpa using haT)).drew)
    have HG5 := Lib.hid (show wr.grownBy W5 (some a) by rw [← hW5, ← hW4]; exact (HG3.out.trans ((World.grownBy_alloc _ _ _).trans (grown_setB _ a 4 _))).trans ⟨rfl, rfl, rfl, Nat.le_refl _, fun _ _ _ => rfl⟩)
    have y65 : W5.cell? ⟨b, 103, none⟩ = some (.int .u8 5) := by rw [← hW5, ← hW4]; exact cell_setO (cell_allocO y63 _) hab _
    have y75 : W5.cell? ⟨b, 114, none⟩ = some (.int .u8 7) := by rw [← hW5, ← hW4]; exact cell_setO (cell_allocO y73 _) hab _
    have x2 : W5.cell? ⟨a, 2, none⟩ = some (.string ampS) := (HA5.out.c 2).trans rfl
    have x4 : W5.cell? ⟨a, 4, none⟩ = some (.slice (some ⟨ta, 0, none⟩) 14 14) := (HA5.out.c 4).trans rfl
    have t5 : W5.cell? ⟨ta, 5, none⟩ = some (.pointer none) := (HR5.out.c 5).trans rfl
    have f5 := HR5.out.f 5
    rw [hta, hW4, hbM, hbK]
    clear hW4 y53 y63 y73 c4 f4
    go_still_tail 16, (by kernel_rfl)
    change wpList _ _ _ _ _ (World.drew W4)
    rw [hW5]
    clear hW5
    go_wp2_with fail
    obtain ⟨W6, hW6⟩ : ∃ W, W5.setCell ⟨ta, 5, none⟩ (.pointer (some ⟨bM, 0, none⟩)) = W := ⟨_, rfl⟩
    obtain ⟨W7, hW7⟩ : ∃ W, World.drew W6 = W := ⟨_, rfl⟩
    have HA7 := Lib.hid (show CB W7 a 287 (nodeC emptyS 0 ampS (some ⟨N, 0, none⟩) (.slice (some ⟨ta, 0, none⟩) 14 14)) by rw [← hW7, ← hW6]; exact (HA5.out.other (grown_setB _ ta 5 _) (by simpa using hTa)).drew)
    have HM7 := Lib.hid (show CB W7 bM 287 (nodeC emptyS 0 ⟨#[109, 112, 59]⟩ (some ⟨N, 0, none⟩) noTbl) by rw [← hW7, ← hW6]; exact (HM5.out.other (grown_setB _ ta 5 _) (by simpa using hTM)).drew)
    have HK7 := Lib.hid (show CB W7 bK 287 (nodeC emptyS 0 emptyS none noTbl) by rw [← hW7, ← hW6]; exact (HK5.out.other (grown_setB _ ta 5 _) (by simpa using hTK)).drew)
    have HR7 := Lib.hid (show CB W7 ta 284 (nilRow.setIfInBounds 5 (.pointer (some ⟨bM, 0, none⟩))) by rw [← hW7, ← hW6]; exact (HR5.out.put 5 _).drew)
    have HG7 := Lib.hid (show wr.grownBy W7 (some a) by
      rw [← hW7, ← hW6]
      exact (show wr.grownBy (W5.setCell ⟨ta, 5, none⟩ (.pointer (some ⟨bM, 0, none⟩))) (some a) from grown_newU HG5.out (grown_setB _ ta 5 _) (by have := HG2.out.size; omega)).trans ⟨rfl, rfl, rfl, Nat.le_refl _, fun _ _ _ => rfl⟩)
    have y77 : W7.cell? ⟨b, 114, none⟩ = some (.int .u8 7) := by rw [← hW7, ← hW6]; exact cell_setO y75 hTb _
    have v4 : W7.cell? ⟨a, 4, none⟩ = some (.slice (some ⟨ta, 0, none⟩) 14 14) := (HA7.out.c 4).trans rfl
    have v2 : W7.cell? ⟨a, 2, none⟩ = some (.string ampS) := (HA7.out.c 2).trans rfl
    have v3 : W7.cell? ⟨a, 3, none⟩ = some (.pointer (some ⟨N, 0, none⟩)) := (HA7.out.c 3).trans rfl
    have g2 := HA7.out.f 2
    have g3 := HA7.out.f 3
    have t7 : W7.cell? ⟨ta, 7, none⟩ = some (.pointer none) := (HR7.out.c 7).trans rfl
    have f7 := HR7.out.f 7
    rw [hW6]
    clear hW6 y65 y75 x2 x4 t5 f5
    go_still_tail 13, (by kernel_rfl)
    change wpList _ _ _ _ _ (World.drew W6)
    rw [hW7]
    clear hW7
    go_wp2_with fail
    obtain ⟨W9, hW9⟩ : ∃ W, ((W7.setCell ⟨ta, 7, none⟩ (.pointer (some ⟨bK, 0, none⟩))).setCell ⟨a, 2, none⟩ (.string ⟨#[]⟩)).setCell ⟨a, 3, none⟩ (.pointer none) = W := ⟨_, rfl⟩
    have HA9 := Lib.hid (show CB W9 a 287 (nodeC emptyS 0 emptyS none (.slice (some ⟨ta, 0, none⟩) 14 14)) by rw [← hW9]; exact ((HA7.out.other (grown_setB _ ta 7 _) (by simpa using hTa)).put 2 _).put 3 _)
    have HM9 := Lib.hid (show CB W9 bM 287 (nodeC emptyS 0 ⟨#[109, 112, 59]⟩ (some ⟨N, 0, none⟩) noTbl) by rw [← hW9]; exact ((HM7.out.other (grown_setB _ ta 7 _) (by simpa using hTM)).other (grown_setB _ a 2 _) (by simpa using haM)).other (grown_setB _ a 3 _) (by simpa using haM))
    have HK9 := Lib.hid (show CB W9 bK 287 (nodeC emptyS 0 emptyS none noTbl) by rw [← hW9]; exact ((HK7.out.other (grown_setB _ ta 7 _) (by simpa using hTK)).other (grown_setB _ a 2 _) (by simpa using haK)).other (grown_setB _ a 3 _) (by simpa using haK))
    have HR9 := Lib.hid (show CB W9 ta 284 ((nilRow.setIfInBounds 5 (.pointer (some ⟨bM, 0, none⟩))).setIfInBounds 7 (.pointer (some ⟨bK, 0, none⟩))) by rw [← hW9]; exact ((HR7.out.put 7 _).other (grown_setB _ a 2 _) (by simpa using haT)).other (grown_setB _ a 3 _) (by simpa using haT))
    have HG9 := Lib.hid (show wr.grownBy W9 (some a) by
      rw [← hW9]
      exact ((grown_newU HG7.out (grown_setB _ ta 7 _) (by have := HG2.out.size; omega)).trans (grown_setB _ a 2 _)).trans (grown_setB _ a 3 _))
    rw [hW9]
    clear hW9 y77 v2 v3 v4 g2 g3 t7 f7
    refine (addFresh_q bK ⟨#[116, 59]⟩ ltV 8 _ W9 (by decide) HK9.out).mono ?_
    rintro e w5 ⟨rfl, ⟨L, hL, h5, h6⟩, hg5⟩
    have H5 := Lib.hid h5; clear h5
    have H6 := Lib.hid h6; clear h6
    have HG := Lib.hid hg5; clear hg5
    have hsz := HG2.out.size
    have hsz9 := HG9.out.size
    go_wp2_with fail
    go_end0
    refine ⟨rfl, ⟨ta, bM, bK, L, by omega, by omega, by omega, by omega, HA9.out.other HG.out (by simpa using hKa), HR9.out.other HG.out (by simpa using hKT), HM9.out.other HG.out (by simpa using hKM), H5.out, H6.out⟩, grown_newU HG9.out HG.out (by omega)⟩

end Go.Proofs.YtbhildmalcfhiaaGreatDoor
