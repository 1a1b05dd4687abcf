/-
  strings.makeGenericReplacer at the ten strings of mark.Unescape.
-/
import Derived.Test.YtbhildmalcfhiaaGreatDoorUnTab
namespace Go.Proofs.YtbhildmalcfhiaaGreatDoor
open Go.RowKit Go.Deep

set_option maxRecDepth 100000 in
theorem index_map (A : Array Value) (k : Nat) (x : Int) (w : World) (hk : k < 256) (h : A[k]? = some (.int .u8 x)) : (Instr.index 246 (.agg A) (.int .i64 (k : Int))).run Tryz.prog w = .ok (.int .u8 x) w := by
  obtain ⟨i0, hi, hz0, hz1, hz2⟩ := info_parts info_byteU2
  have hk2 : (0 : Int) ≤ (k : Int) ∧ (k : Int) < (256 : Int) := by omega
  simp [Instr.index, run_underlying (P := Tryz.prog) Tryz.underlying246, sizeOf, typeInfo, hi, hz1, part, h, asIntOf]
  intro h9; omega
def mapL (f : Nat → Nat) : List Value := (List.range 256).map fun c => Value.int .u8 (f c : Int)
theorem mapL_len (f : Nat → Nat) : (mapL f).length = 256 := by simp [mapL]
theorem mapL_at (f : Nat → Nat) {k : Nat} (hk : k < 256) : (mapL f).toArray[k]? = some (.int .u8 (f k : Int)) := by
  unfold mapL
  rw [List.getElem?_toArray, List.getElem?_map, List.getElem?_range hk]; rfl
theorem range_map {w : World} {b : Nat} {ts : Int} {tbl : Value} {f : Nat → Nat} (h : CB w b 289 (genC ts tbl f)) : w.rangeAt b 6 (mapL f) := fun j v hj => by
  have hj2 : j < 256 := by have := (List.getElem?_eq_some_iff.1 hj).1; rw [mapL_len] at this; exact this
  rw [h.c, genC_map _ _ _ hj2]
  have h8 := mapL_at f hj2
  rw [List.getElem?_toArray, hj] at h8
  exact h8.symm
theorem info_map : (Tryz.prog.info? 246).map (·.size) = some 256 := by kernel_rfl
set_option maxRecDepth 100000 in
set_option maxHeartbeats 8000000 in
theorem makeGen_q (g cp : Nat) (w : World) (hc : ∀ (j : Nat) (x : ByteArray), oldU[j]? = some x → w.cell? ⟨g, j, none⟩ = some (.string x)) :
    Calls Tryz.prog 221 #[.slice (some ⟨g, 0, none⟩) 10 cp] w (fun e w' => ∃ b tb na ta, ∃ nd lf : Nat → Nat, e = .returned (.pointer (some ⟨b, 0, none⟩)) ∧ w.heap.size ≤ b ∧ TrieAt w' b tb na ta nd lf ∧ Below w.heap.size w w') := by
  have HC := Lib.hid hc; clear hc
  go_enter Tryz.func221, Tryz.ntmps221
  go_wp2_with fail
  obtain ⟨b, hb⟩ : ∃ b, w.heap.size = b := ⟨_, rfl⟩
  obtain ⟨w0, hw0⟩ : ∃ w0, w.alloc (.cells Tryz.zeroCells289 289) = w0 := ⟨_, rfl⟩
  have HG0 := Lib.hid (show CB w0 b 289 (genC 0 noTbl (seenU (preU 0))) by rw [← hw0, ← hb]; exact zeroGen ▸ CB.new _ _ _)
  have HB0 := Lib.hid (show Below b w w0 by rw [← hw0, ← hb]; exact (Below.refl _ _).alloc (Nat.le_refl _) _)
  have HKs := Lib.hid (show ∀ W, Below b w W → Keeps w W from fun W h => Keeps.of_below (by rw [hb]; exact h))
  rw [hw0, hb]
  clear hw0
  go_loopw [4] (fun t wr => ∃ k : Nat, k ≤ 5 ∧ t = .int .i64 (2 * (k : Int)) ∧ Hid (CB wr b 289 (genC 0 noTbl (seenU (preU k)))) ∧ Hid (Below b w wr)) (fun t _ => 10 - (intOf t).toNat)
  case atStart => exact ⟨0, Nat.zero_le _, by first | rfl | go_num, HG0, HB0⟩
  case round =>
    clear HG0 HB0
    obtain ⟨k, hk, rfl, HG, HB⟩ := hrel
    by_cases hk5 : k < 5
    · obtain ⟨key, hk1, hk2, hk3⟩ := old_even hk5
      have c0 := (HKs.out _ HB.out) _ _ (HC.out _ _ hk1)
      have hkI : (2 * (k : Int)) < 10 := by omega
      have HK2 := Lib.hid hk2; clear hk2 hk1
      go_wp2_with fail
      go_loopw [6] (fun t wr => ∃ j : Nat, j ≤ key.size ∧ t = .int .i64 j ∧ Hid (CB wr b 289 (genC 0 noTbl (seenU (preU k ++ key.data.toList.take j)))) ∧ Hid (Below b w wr)) (fun t _ => key.size - (intOf t).toNat)
      case atStart => exact ⟨0, Nat.zero_le _, rfl, by simpa using HG, HB⟩
      case round =>
        clear HG HB c0
        obtain ⟨j, hj, rfl, HG, HB⟩ := hrel
        by_cases hjs : j < key.size
        · obtain ⟨c, hc⟩ : ∃ c, key[j]'hjs = c := ⟨_, rfl⟩
          have hcl : key.data.toList[j]? = some c := by rw [← hc]; exact List.getElem?_eq_getElem (by rw [size_toList]; exact hjs)
          have hjI : (j : Int) < (key.size : Int) := by omega
          have hc256 : c.toNat < 256 := c.toNat_lt
          have hc256i : (c.toNat : Int) < 256 := by omega
          have hN : CB (wr.drew.setCell ⟨b, 6 + c.toNat, none⟩ (.int .u8 1)) b 289 (genC 0 noTbl (seenU (preU k ++ key.data.toList.take (j + 1)))) := by
            have h9 := HG.out.drew.put (6 + c.toNat) (.int .u8 ((1 : Nat) : Int))
            rw [genC_set _ _ _ _ hc256, seen_more, List.append_assoc, ← List.take_append_getElem?_u hcl] at h9
            exact h9
          have HN := Lib.hid hN
          have HB2 := Lib.hid (HB.out.drew.setCell (p := ⟨b, 6 + c.toNat, none⟩) (Nat.le_refl _) (.int .u8 1))
          obtain ⟨W1, hW1⟩ : ∃ W, World.drew wr = W := ⟨_, rfl⟩
          have HG1 := Lib.hid (show CB W1 b 289 _ from hW1 ▸ HG.out.drew)
          have ct := (HG1.out.c (6 + c.toNat)).trans (genC_map _ _ _ hc256)
          have cf := HG1.out.f (6 + c.toNat)
          rw [hW1] at HN HB2
          clear hcl hN
          go_wp2_with fail
          go_still_tail 7, (by kernel_rfl)
          change wpList _ _ _ _ _ (World.drew wr)
          rw [hW1]
          clear hW1
          go_wp2_with fail
          go_roundw
          case rel => exact ⟨j + 1, hjs, by first | rfl | go_num, HN, HB2⟩
          case measure => simp only [intOf]; omega
        · obtain rfl : j = key.size := by omega
          have HN := Lib.hid (show CB wr b 289 (genC 0 noTbl (seenU (preU (k + 1)))) by
            have h9 := HG.out
            rw [List.take_of_length_le (by rw [size_toList]; omega)] at h9
            rw [preU, HK2.out]
            exact h9)
          go_wp2_with fail
          go_roundw
          case rel => exact ⟨k + 1, by omega, by first | rfl | go_num, HN, HB⟩
          case measure => simp only [intOf]; omega
    · obtain rfl : k = 5 := by omega
      have hrng := range_map HG.out
      have HL := Lib.hid (show ∀ k : Nat, k < 256 → ∀ W, (Instr.index 246 (.agg (mapL (seenU (preU 5))).toArray) (.int .i64 (k : Int))).run Tryz.prog W = .ok (.int .u8 (seenU (preU 5) k : Int)) W from fun k hk W => index_map _ k _ W hk (mapL_at _ hk))
      have hlen := mapL_len (seenU (preU 5))
      obtain ⟨A0, hA0⟩ : ∃ A, mapL (seenU (preU 5)) = A := ⟨_, rfl⟩
      rw [hA0] at hrng HL hlen
      have HA0 := Lib.hid hA0
      have HR := Lib.hid hrng; clear hrng hA0
      have HLn := Lib.hid hlen; clear hlen
      go_wp2_with (refine wpList_load_mid (P := Tryz.prog) rfl 246 (.tmp 39) rfl b 6 rfl A0 _ HR.out Tryz.underlying246 rfl (by rw [HLn.out]; exact info_map) ?_)
      go_loopw [41] (fun t wr => ∃ i : Nat, i ≤ 256 ∧ t = .int .i64 i ∧ Hid (CB wr b 289 (genC (cntU i : Int) noTbl (seenU (preU 5)))) ∧ Hid (Below b w wr)) (fun t _ => 256 - (intOf t).toNat)
      case atStart => exact ⟨0, Nat.zero_le _, rfl, HG, HB⟩
      case round =>
        clear HG HB HR
        obtain ⟨i, hi, rfl, HG, HB⟩ := hrel
        by_cases hi2 : i < 256
        · have hx := HL.out i hi2
          have hxm := seen_bit i
          have hcn := cntU_le i hi
          have hiI : (i : Int) < 256 := by omega
          have hst : cntU (i + 1) = cntU i + seenU (preU 5) i := rfl
          obtain ⟨m, hm⟩ : ∃ m, seenU (preU 5) i = m := ⟨_, rfl⟩
          obtain ⟨n, hn⟩ : ∃ n, cntU i = n := ⟨_, rfl⟩
          rw [hm] at hx hxm hst
          rw [hn] at hcn hst HG
          have hm2 : m < 2 := by omega
          have tm2 : IntKind.i64.wrap (m : Int) = (m : Int) := IntWalk.i64_in _ (by omega)
          have c5 : wr.cell? ⟨b, 5, none⟩ = some (.int .i64 (n : Int)) := (HG.out.c 5).trans rfl
          have f5 := HG.out.f 5
          have HN := Lib.hid (show CB (wr.setCell ⟨b, 5, none⟩ (.int .i64 ((n : Int) + (m : Int)))) b 289 (genC ((cntU (i + 1) : Nat) : Int) noTbl (seenU (preU 5))) by
            have h9 := HG.out.put 5 (.int .i64 ((n : Int) + (m : Int)))
            rw [genC_ts] at h9
            rw [hst, Int.natCast_add]
            exact h9)
          have HB2 := Lib.hid (HB.out.setCell (p := ⟨b, 5, none⟩) (Nat.le_refl _) (.int .i64 ((n : Int) + (m : Int))))
          clear hst hm hn hxm
          go_wp2_with fail
          go_roundw
          case rel => exact ⟨i + 1, hi2, by first | rfl | go_num, HN, HB2⟩
          case measure => simp only [intOf]; omega
        · obtain rfl : i = 256 := by omega
          rw [cntU_256] at HG
          have HR := Lib.hid (show wr.rangeAt b 6 A0 by rw [← HA0.out]; exact range_map HG.out)
          go_wp2_with (refine wpList_load_mid (P := Tryz.prog) rfl 246 (.tmp 56) rfl b 6 rfl A0 _ HR.out Tryz.underlying246 rfl (by rw [HLn.out]; exact info_map) ?_)
          go_loopw [9, 58] (fun t9 t58 wr => ∃ i : Nat, i ≤ 256 ∧ t58 = .int .i64 i ∧ t9 = .int .u8 (cntU i : Int) ∧ Hid (CB wr b 289 (genC 14 noTbl (numU i))) ∧ Hid (Below b w wr)) (fun _ t _ => 256 - (intOf t).toNat)
          case atStart => exact ⟨0, Nat.zero_le _, rfl, rfl, by rw [numU_zero]; exact HG, HB⟩
          case round =>
            clear HG HB HR
            obtain ⟨i, hi, rfl, rfl, HG, HB⟩ := hrel
            by_cases hi2 : i < 256
            · have hx := HL.out i hi2
              have hiI : (i : Int) < 256 := by omega
              have hcn := cntU_le (i + 1) hi2
              have hst : cntU (i + 1) = cntU i + seenU (preU 5) i := rfl
              have hns := numU_step i
              have ct := (HG.out.c (6 + i)).trans (genC_map _ _ _ hi2)
              have cf := HG.out.f (6 + i)
              rcases seen_bit i with hm | hm
              · rw [hm] at hx hst
                have hn1 := hns 14 (by rw [hm]; rfl)
                obtain ⟨W1, hW1⟩ : ∃ W, World.drew wr = W := ⟨_, rfl⟩
                have HG1 := Lib.hid (show CB W1 b 289 (genC 14 noTbl (numU i)) from hW1 ▸ HG.out.drew)
                have HN := Lib.hid (show CB (W1.setCell ⟨b, 6 + i, none⟩ (.int .u8 14)) b 289 (genC 14 noTbl (numU (i + 1))) by
                  have h9 := HG1.out.put (6 + i) (.int .u8 ((14 : Nat) : Int))
                  rw [genC_set _ _ _ _ hi2, hn1] at h9
                  exact h9)
                have HB2 := Lib.hid (show Below b w (W1.setCell ⟨b, 6 + i, none⟩ (.int .u8 14)) from (show Below b w W1 from hW1 ▸ HB.out.drew).setCell (p := ⟨b, 6 + i, none⟩) (Nat.le_refl _) _)
                have ct1 := (HG1.out.c (6 + i)).trans (genC_map _ _ _ hi2)
                have cf1 := HG1.out.f (6 + i)
                have c5 : W1.cell? ⟨b, 5, none⟩ = some (.int .i64 14) := (HG1.out.c 5).trans rfl
                have HSt := Lib.hid hst
                clear hst hm hns hn1 ct cf
                go_wp2_with fail
                go_still_tail 10, (by kernel_rfl)
                change wpList _ _ _ _ _ (World.drew wr)
                rw [hW1]
                clear hW1
                go_wp2_with fail
                go_roundw
                case rel => exact ⟨i + 1, hi2, by first | rfl | go_num, by rw [HSt.out]; first | rfl | go_num, HN, HB2⟩
                case measure => simp only [intOf]; omega
              · rw [hm] at hx hst
                have hn1 := hns (cntU i) (by rw [hm]; rfl)
                have HN := Lib.hid (show CB (wr.setCell ⟨b, 6 + i, none⟩ (.int .u8 (cntU i : Int))) b 289 (genC 14 noTbl (numU (i + 1))) by
                  have h9 := HG.out.put (6 + i) (.int .u8 ((cntU i : Nat) : Int))
                  rw [genC_set _ _ _ _ hi2, hn1] at h9
                  exact h9)
                have HB2 := Lib.hid (HB.out.setCell (p := ⟨b, 6 + i, none⟩) (Nat.le_refl _) (.int .u8 (cntU i : Int)))
                obtain ⟨n, hn⟩ : ∃ n, cntU i = n := ⟨_, rfl⟩
                rw [hn] at hst HN HB2
                rw [hn]
                have HSt := Lib.hid hst
                have hn13 : n < 14 := by omega
                clear hst hm hns hn1 hn
                go_wp2_with fail
                go_roundw
                case rel => exact ⟨i + 1, hi2, by first | rfl | go_num, by rw [HSt.out]; first | rfl | go_num, HN, HB2⟩
                case measure => simp only [intOf]; omega
            · have hi3 : i = 256 := by omega
              have hiI : ¬ ((i : Int) < 256) := by omega
              have hiD : decide ((i : Int) < 256) = false := decide_eq_false hiI
              rw [hi3] at HG
              clear hi3 hi2
              have hmk := makeRow
              have c5 : wr.cell? ⟨b, 5, none⟩ = some (.int .i64 14) := (HG.out.c 5).trans rfl
              have c4 : ∀ o : Obj, (wr.alloc o).cell? ⟨b, 4, none⟩ = some (.slice none 0 0) := fun o => ((HG.out.alloc o).c 4).trans rfl
              have f4 : ∀ o : Obj, (wr.alloc o).frozen? ⟨b, 4, none⟩ = false := fun o => (HG.out.alloc o).f 4
              obtain ⟨tb, htb⟩ : ∃ n, wr.heap.size = n := ⟨_, rfl⟩
              obtain ⟨W1, hW1⟩ : ∃ W, (wr.alloc (.cells nilRow 284)).setCell ⟨b, 4, none⟩ (.slice (some ⟨tb, 0, none⟩) 14 14) = W := ⟨_, rfl⟩
              have hbt : b < tb := by rw [← htb]; exact HG.out.lt
              have HST := Lib.hid (show StG W1 b tb 0 by
                refine ⟨?_, ?_⟩
                · have h9 := (HG.out.alloc (.cells nilRow 284)).put 4 (.slice (some ⟨tb, 0, none⟩) 14 14)
                  rw [genC_tbl] at h9
                  rw [← hW1]; exact h9
                · rw [← hW1, ← htb]
                  exact (CB.new _ _ _).other (grown_setB _ b 4 _) (by rw [htb]; simp; omega))
              have HB1 := Lib.hid (show Below b w W1 by rw [← hW1]; exact (HB.out.alloc (by rw [htb]; omega) _).setCell (Nat.le_refl _) _)
              go_upto_region 25 with (fail)
              have hs1 : b < W1.heap.size := HST.out.1.lt
              clear hW1 c5 c4 f4 htb HG HB
              have d0 := HC.out 0 _ rfl
              have d1 := HC.out 1 _ rfl
              have d2 := HC.out 2 _ rfl
              have d3 := HC.out 3 _ rfl
              have d4 := HC.out 4 _ rfl
              have d5 := HC.out 5 _ rfl
              have d6 := HC.out 6 _ rfl
              have d7 := HC.out 7 _ rfl
              have d8 := HC.out 8 _ rfl
              have d9 := HC.out 9 _ rfl
              go_wp2_with fail
              go_loopw [12] (fun t wr => ∃ k : Nat, k ≤ 5 ∧ t = .int .i64 (2 * (k : Int)) ∧ b < wr.heap.size ∧ Hid (StG wr b tb k) ∧ Hid (Below b w wr)) (fun t _ => 10 - (intOf t).toNat)
              case atStart => exact ⟨0, Nat.zero_le _, by first | rfl | go_num, hs1, HST, HB1⟩
              case round =>
                clear HST HB1 hs1
                obtain ⟨k, hk, rfl, hs1, HST, HB⟩ := hrel
                have HKp := Lib.hid (HKs.out _ HB.out)
                rcases (by omega : k = 0 ∨ k = 1 ∨ k = 2 ∨ k = 3 ∨ k = 4 ∨ k = 5) with rfl | rfl | rfl | rfl | rfl | rfl
                · have w0 : IntKind.i64.wrap 1 = 1 := IntWalk.i64_in _ (by omega)
                  have w1 : IntKind.i64.wrap 10 = 10 := IntWalk.i64_in _ (by omega)
                  have p0 := HKp.out _ _ d0
                  have p1 := HKp.out _ _ d1
                  obtain ⟨W1, hW1⟩ : ∃ W, World.drew wr = W := ⟨_, rfl⟩
                  have HST1 := Lib.hid (show StG W1 b tb 0 from hW1 ▸ HST.out.drewN 1)
                  have hs2 : b < W1.heap.size := by rw [← hW1]; exact hs1
                  have q0 := Keeps.drew wr _ _ p0
                  have q1 := Keeps.drew wr _ _ p1
                  rw [hW1] at q0 q1
                  have HB1 := Lib.hid (show Below b w W1 from hW1 ▸ HB.out.drew)
                  go_wp2_with fail
                  go_still_tail 17, (by kernel_rfl)
                  change wpList _ _ _ _ _ (World.drew wr)
                  rw [hW1]
                  clear hW1 p0 p1 q0 q1
                  go_wp2_with (go_at_call 232; go_must (refine (root0 b tb W1 HST1.out hs2 (Nat.le_of_lt hbt) _ rfl).mono ?_); rintro e w3 ⟨rfl, hs3, hb3⟩; have HS3 := Lib.hid hs3; clear hs3; have HB3 := Lib.hid hb3; clear hb3)
                  go_roundw
                  case rel => exact ⟨1, by omega, by first | rfl | go_num, Nat.lt_of_lt_of_le hs2 HB3.out.size, HS3, HB1.out.trans HB3.out⟩
                  case measure => simp [intOf]
                · have w0 : IntKind.i64.wrap 3 = 3 := IntWalk.i64_in _ (by omega)
                  have w1 : IntKind.i64.wrap 8 = 8 := IntWalk.i64_in _ (by omega)
                  have p0 := HKp.out _ _ d2
                  have p1 := HKp.out _ _ d3
                  obtain ⟨W1, hW1⟩ : ∃ W, World.drew wr = W := ⟨_, rfl⟩
                  have HST1 := Lib.hid (show StG W1 b tb 1 from hW1 ▸ HST.out.drewN 1)
                  have hs2 : b < W1.heap.size := by rw [← hW1]; exact hs1
                  have q0 := Keeps.drew wr _ _ p0
                  have q1 := Keeps.drew wr _ _ p1
                  rw [hW1] at q0 q1
                  have HB1 := Lib.hid (show Below b w W1 from hW1 ▸ HB.out.drew)
                  go_wp2_with fail
                  go_still_tail 17, (by kernel_rfl)
                  change wpList _ _ _ _ _ (World.drew wr)
                  rw [hW1]
                  clear hW1 p0 p1 q0 q1
                  go_wp2_with (go_at_call 232; go_must (refine (root1 b tb W1 HST1.out hs2 _ rfl).mono ?_); rintro e w3 ⟨rfl, hs3, hb3⟩; have HS3 := Lib.hid hs3; clear hs3; have HB3 := Lib.hid hb3; clear hb3)
                  go_roundw
                  case rel => exact ⟨2, by omega, by first | rfl | go_num, Nat.lt_of_lt_of_le hs2 HB3.out.size, HS3, HB1.out.trans HB3.out⟩
                  case measure => simp [intOf]
                · have w0 : IntKind.i64.wrap 5 = 5 := IntWalk.i64_in _ (by omega)
                  have w1 : IntKind.i64.wrap 6 = 6 := IntWalk.i64_in _ (by omega)
                  have p0 := HKp.out _ _ d4
                  have p1 := HKp.out _ _ d5
                  obtain ⟨W1, hW1⟩ : ∃ W, World.drew wr = W := ⟨_, rfl⟩
                  have HST1 := Lib.hid (show StG W1 b tb 2 from hW1 ▸ HST.out.drewN 1)
                  have hs2 : b < W1.heap.size := by rw [← hW1]; exact hs1
                  have q0 := Keeps.drew wr _ _ p0
                  have q1 := Keeps.drew wr _ _ p1
                  rw [hW1] at q0 q1
                  have HB1 := Lib.hid (show Below b w W1 from hW1 ▸ HB.out.drew)
                  go_wp2_with fail
                  go_still_tail 17, (by kernel_rfl)
                  change wpList _ _ _ _ _ (World.drew wr)
                  rw [hW1]
                  clear hW1 p0 p1 q0 q1
                  go_wp2_with (go_at_call 232; go_must (refine (root2 0 b tb 6 ⟨#[38, 103, 116, 59]⟩ ⟨#[103, 116, 59]⟩ W1 HST1.out hs2 _ rfl (by decide) rfl (by decide) (by decide) rfl (by decide) (by decide) (by omega) (by decide) (fun nd => rfl)).mono ?_); rintro e w3 ⟨rfl, hs3, hb3⟩; have HS3 := Lib.hid hs3; clear hs3; have HB3 := Lib.hid hb3; clear hb3)
                  go_roundw
                  case rel => exact ⟨3, by omega, by first | rfl | go_num, Nat.lt_of_lt_of_le hs2 HB3.out.size, HS3, HB1.out.trans HB3.out⟩
                  case measure => simp [intOf]
                · have w0 : IntKind.i64.wrap 7 = 7 := IntWalk.i64_in _ (by omega)
                  have w1 : IntKind.i64.wrap 4 = 4 := IntWalk.i64_in _ (by omega)
                  have p0 := HKp.out _ _ d6
                  have p1 := HKp.out _ _ d7
                  obtain ⟨W1, hW1⟩ : ∃ W, World.drew wr = W := ⟨_, rfl⟩
                  have HST1 := Lib.hid (show StG W1 b tb 3 from hW1 ▸ HST.out.drewN 1)
                  have hs2 : b < W1.heap.size := by rw [← hW1]; exact hs1
                  have q0 := Keeps.drew wr _ _ p0
                  have q1 := Keeps.drew wr _ _ p1
                  rw [hW1] at q0 q1
                  have HB1 := Lib.hid (show Below b w W1 from hW1 ▸ HB.out.drew)
                  go_wp2_with fail
                  go_still_tail 17, (by kernel_rfl)
                  change wpList _ _ _ _ _ (World.drew wr)
                  rw [hW1]
                  clear hW1 p0 p1 q0 q1
                  go_wp2_with (go_at_call 232; go_must (refine (root2 1 b tb 11 ⟨#[38, 113, 117, 111, 116, 59]⟩ ⟨#[113, 117, 111, 116, 59]⟩ W1 HST1.out hs2 _ rfl (by decide) rfl (by decide) (by decide) rfl (by decide) (by decide) (by omega) (by decide) (fun nd => rfl)).mono ?_); rintro e w3 ⟨rfl, hs3, hb3⟩; have HS3 := Lib.hid hs3; clear hs3; have HB3 := Lib.hid hb3; clear hb3)
                  go_roundw
                  case rel => exact ⟨4, by omega, by first | rfl | go_num, Nat.lt_of_lt_of_le hs2 HB3.out.size, HS3, HB1.out.trans HB3.out⟩
                  case measure => simp [intOf]
                · have w0 : IntKind.i64.wrap 9 = 9 := IntWalk.i64_in _ (by omega)
                  have w1 : IntKind.i64.wrap 2 = 2 := IntWalk.i64_in _ (by omega)
                  have p0 := HKp.out _ _ d8
                  have p1 := HKp.out _ _ d9
                  obtain ⟨W1, hW1⟩ : ∃ W, World.drew wr = W := ⟨_, rfl⟩
                  have HST1 := Lib.hid (show StG W1 b tb 4 from hW1 ▸ HST.out.drewN 1)
                  have hs2 : b < W1.heap.size := by rw [← hW1]; exact hs1
                  have q0 := Keeps.drew wr _ _ p0
                  have q1 := Keeps.drew wr _ _ p1
                  rw [hW1] at q0 q1
                  have HB1 := Lib.hid (show Below b w W1 from hW1 ▸ HB.out.drew)
                  go_wp2_with fail
                  go_still_tail 17, (by kernel_rfl)
                  change wpList _ _ _ _ _ (World.drew wr)
                  rw [hW1]
                  clear hW1 p0 p1 q0 q1
                  go_wp2_with (go_at_call 232; go_must (refine (root2 2 b tb 0 ⟨#[38, 35, 51, 57, 59]⟩ ⟨#[35, 51, 57, 59]⟩ W1 HST1.out hs2 _ rfl (by decide) rfl (by decide) (by decide) rfl (by decide) (by decide) (by omega) (by decide) (fun nd => rfl)).mono ?_); rintro e w3 ⟨rfl, hs3, hb3⟩; have HS3 := Lib.hid hs3; clear hs3; have HB3 := Lib.hid hb3; clear hb3)
                  go_roundw
                  case rel => exact ⟨5, by omega, by first | rfl | go_num, Nat.lt_of_lt_of_le hs2 HB3.out.size, HS3, HB1.out.trans HB3.out⟩
                  case measure => simp [intOf]
                · go_wp2_with fail
                  go_ret
                  obtain ⟨na, ta, nd, lf, hT⟩ := HST.out.trie
                  exact ⟨b, tb, na, ta, nd, lf, rfl, by omega, hT, by rw [hb]; exact HB.out⟩

end Go.Proofs.YtbhildmalcfhiaaGreatDoor
