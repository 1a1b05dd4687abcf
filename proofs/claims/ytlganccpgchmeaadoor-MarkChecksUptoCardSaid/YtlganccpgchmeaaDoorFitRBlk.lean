/-
  Documents that can be printed, by the reference: mastref1.goodBlocks, CanPrint.
-/
import Derived.Test.YtlganccpgchmeaaDoorFitRLine
import Derived.Test.YtlganccpgchmeaaDoorCheck7
namespace Go.Proofs.YtlganccpgchmeaaDoor
open Go.RowKit Go.Deep

set_option maxRecDepth 100000 in
set_option maxHeartbeats 16000000 in
theorem goodBlocks_any (N : Nat) : ∀ (l : List Node) (v : Value) (p : Int) (w : World), SizeOf.sizeOf l ≤ N → NodesAt w v l → nodesErr l p = 0 → weight l ≤ 1073741824 → MaxA w →
    Calls Tryd.prog 25 #[v] w (InlRes (blkL l none) w) := by
  induction N with
  | zero =>
    intro l v p w hN
    cases l <;> simp at hN
  | succ N ih =>
    intro l v p w hN h he hw hm
    obtain ⟨An, c, bl, o, kv, rfl, hlc, hc, hA, hcell, hkid⟩ := h.inv
    have hll : l.length ≤ 1073741824 := Nat.le_trans (len_weight l) hw
    have HCell := Lib.hid hcell
    have HKid := Lib.hid hkid
    have HN := Lib.hid hN
    have HE := Lib.hid he
    have HW := Lib.hid hw
    have HI := Lib.hid ih
    have HA := Lib.hid hA
    have HM := Lib.hid hm
    obtain ⟨R, hR⟩ : ∃ R, blkL l none = R := ⟨_, rfl⟩
    have HR := Lib.hid hR
    rw [hR]
    unfold maxLen at hc
    clear h hcell hkid hN he hw ih hA hR hm
    go_enter Tryd.func25, Tryd.ntmps25
    go_wp2_with fail
    go_loopw [7] (fun t7 wr => ∃ k : Nat, k ≤ l.length ∧ t7 = .int .i64 k ∧ Hid (R = blkL (l.drop k) (prevN l k)) ∧ Hid (Below w.heap.size w wr)) (fun t _ => l.length - (intOf t).toNat)
    case atStart => exact ⟨0, Nat.zero_le _, rfl, Lib.hid (by rw [← HR.out]; rfl), Below.refl _ _⟩
    case round =>
      obtain ⟨k, hk, rfl, HS, HB⟩ := hrel
      by_cases hlt : k < l.length
      · obtain rfl := HA.out (by rintro rfl; simp at hlt)
        obtain ⟨n, hn⟩ : ∃ n, l[k]? = some n := ⟨_, List.getElem?_eq_getElem hlt⟩
        have hkeep := Keeps.of_below HB.out
        obtain ⟨p0, p1, p2, p3, p4, p5, _, _, _, _, _⟩ := (HCell.out k n hn).keep hkeep
        have hkid := (HKid.out k n hn).keep hkeep
        obtain ⟨A3, c3, b3, o3, k3, e3, _, _, _, _, _⟩ := hkid.inv
        rw [e3] at hkid p5
        obtain ⟨en1, en2⟩ := nodesErr_mem HE.out hn
        have hsz := node_sizes hn
        have hw9 := HW.out
        have HEn2 := Lib.hid en2
        have HSz := Lib.hid (size_at HN.out hn)
        have HWk := Lib.hid (show weight n.kids ≤ 1073741824 by omega)
        have HSs := Lib.hid (show n.text.size ≤ 1073741824 ∧ n.dest.size ≤ 1073741824 from ⟨by omega, by omega⟩)
        have HAt := Lib.hid (blkL_at hn)
        have bb := World.block_lt_of_cell? _ _ p0
        simp only at bb
        obtain ⟨v2, hv2⟩ : ∃ v2, blkN n = v2 := ⟨_, rfl⟩
        have HV2 := Lib.hid hv2
        obtain ⟨W0, hW0⟩ : ∃ W, wr.alloc (.cells #[.int .i64 n.kind, .int .i64 n.level, .string n.text, .string n.dest, .string n.title, .slice A3 n.kids.length c3] 31) = W := ⟨_, rfl⟩
        have HY := Lib.hid (show CB W0 wr.heap.size 31 #[.int .i64 n.kind, .int .i64 n.level, .string n.text, .string n.dest, .string n.title, .slice A3 n.kids.length c3] by rw [← hW0]; exact CB.new _ _ _)
        have HBr := Lib.hid (show Below w.heap.size w W0 by rw [← hW0]; exact HB.out.alloc HB.out.size _)
        have HKr := Lib.hid (show NodesAt W0 (.slice A3 n.kids.length c3) n.kids by rw [← hW0]; exact hkid.keep (Keeps.alloc _ _))
        have HMr := Lib.hid (show MaxA W0 by rw [← hW0]; exact HM.out.keep (Keeps.of_below (HB.out.alloc HB.out.size _)))
        obtain ⟨pb, hpb⟩ : ∃ b, (!pvL (prevN l k) n) = b := ⟨_, rfl⟩
        have HPb := Lib.hid hpb
        have HNx := Lib.hid hn
        have HKeep := Lib.hid hkeep
        clear hpb hn hkeep hkid en1 en2 hsz hw9 hv2 e3
        go_upto_region 4 with fail
        try rw [hW0]
        clear p0 p1 p2 p3 p4 p5
        go_cut [7, 40] from 7 to 77 (fun s7 s40 wx => s7 = .int .i64 k ∧ s40 = .bool pb ∧ Hid (CB wx wr.heap.size 31 #[.int .i64 n.kind, .int .i64 n.level, .string n.text, .string n.dest, .string n.title, .slice A3 n.kids.length c3]) ∧ Hid (Below w.heap.size w wx) ∧ Hid (NodesAt wx (.slice A3 n.kids.length c3) n.kids) ∧ Hid (MaxA wx))
        case first =>
          by_cases hk0 : k = 0
          · have hpf : pb = false := by rw [← HPb.out, hk0]; rfl
            subst hpf
            have hg : decide ((0 : Int) < (k : Int)) = false := by simp; omega
            have hgn : ¬ 0 < k := by omega
            clear hk0 hW0
            have y0 := HY.out.c 0
            have y1 := HY.out.c 1
            have y2 := HY.out.c 2
            have y3 := HY.out.c 3
            have y4 := HY.out.c 4
            have y5 := HY.out.c 5
            simp only [List.getElem?_toArray, List.getElem?_cons_zero, List.getElem?_cons_succ] at y0 y1 y2 y3 y4 y5
            go_quiet (fail)
            go_wp2_with fail
            go_meet
            exact ⟨rfl, rfl, HY.out.drewN _, Below.drewN' HBr.out _, HKr.out.keep (Keeps.of_below (Below.drewN' (Below.refl _ _) _)), HMr.out.keep (Keeps.of_below (Below.drewN' (Below.refl _ _) _))⟩
          · obtain ⟨j, hj⟩ : ∃ j, k = j + 1 := ⟨k - 1, by omega⟩
            obtain ⟨a, ha⟩ : ∃ a, l[j]? = some a := ⟨_, List.getElem?_eq_getElem (by omega)⟩
            obtain ⟨r0', r1', _, _, _, _, _, _, _, _, _⟩ := (HCell.out j a ha).keep HKeep.out
            have r0 : W0.cell? ⟨bl, o + j * 6, none⟩ = some (.int .i64 a.kind) := by rw [← hW0]; exact Keeps.alloc wr _ _ _ r0'
            have r1 : W0.cell? ⟨bl, o + j * 6 + 1, none⟩ = some (.int .i64 a.level) := by rw [← hW0]; exact Keeps.alloc wr _ _ _ r1'
            have hg : decide ((0 : Int) < (k : Int)) = true := by simp; omega
            have hgn : 0 < k := by omega
            have hkj : (k : Int) - 1 = (j : Int) := by omega
            have hjl : j < l.length := by omega
            have hjl2 : (j : Int) < (l.length : Int) := by omega
            have hwj : IntKind.i64.wrap (j : Int) = (j : Int) := IntWalk.i64_in _ (by omega)
            obtain ⟨ll, hll2⟩ : ∃ b, (decide (n.level < 0) == decide (a.level < 0)) = b := ⟨_, rfl⟩
            have HPv0 := Lib.hid (show (n.kind == 5 && a.kind == 5 && ll) = pb by
              rw [← HPb.out, show prevN l k = some a by rw [hj]; exact prevN_succ ha, ← hll2]
              show _ = !(!_)
              rw [Bool.not_not])
            clear ha hk0 hj r0' r1' hW0
            by_cases hn5 : n.kind = 5
            · have t5 : (n.kind == 5) = true := by simp; omega
              by_cases ha5 : a.kind = 5
              · have t6 : (a.kind == 5) = true := by simp; omega
                have hpf : pb = ll := by rw [← HPv0.out, t5, t6]; rfl
                subst hpf
                clear hn5 ha5
                cases pb with
                | true =>
                  have y0 := HY.out.c 0
                  have y1 := HY.out.c 1
                  have y2 := HY.out.c 2
                  have y3 := HY.out.c 3
                  have y4 := HY.out.c 4
                  have y5 := HY.out.c 5
                  simp only [List.getElem?_toArray, List.getElem?_cons_zero, List.getElem?_cons_succ] at y0 y1 y2 y3 y4 y5
                  go_quiet (fail)
                  go_wp2_with fail
                  go_meet
                  exact ⟨rfl, rfl, HY.out.drewN _, Below.drewN' HBr.out _, HKr.out.keep (Keeps.of_below (Below.drewN' (Below.refl _ _) _)), HMr.out.keep (Keeps.of_below (Below.drewN' (Below.refl _ _) _))⟩
                | false =>
                  have y0 := HY.out.c 0
                  have y1 := HY.out.c 1
                  have y2 := HY.out.c 2
                  have y3 := HY.out.c 3
                  have y4 := HY.out.c 4
                  have y5 := HY.out.c 5
                  simp only [List.getElem?_toArray, List.getElem?_cons_zero, List.getElem?_cons_succ] at y0 y1 y2 y3 y4 y5
                  go_quiet (fail)
                  go_wp2_with fail
                  go_meet
                  exact ⟨rfl, rfl, HY.out.drewN _, Below.drewN' HBr.out _, HKr.out.keep (Keeps.of_below (Below.drewN' (Below.refl _ _) _)), HMr.out.keep (Keeps.of_below (Below.drewN' (Below.refl _ _) _))⟩
              · have t6 : (a.kind == 5) = false := by simp; omega
                have hpf : pb = false := by rw [← HPv0.out, t5, t6]; rfl
                subst hpf
                clear hn5 ha5
                have y0 := HY.out.c 0
                have y1 := HY.out.c 1
                have y2 := HY.out.c 2
                have y3 := HY.out.c 3
                have y4 := HY.out.c 4
                have y5 := HY.out.c 5
                simp only [List.getElem?_toArray, List.getElem?_cons_zero, List.getElem?_cons_succ] at y0 y1 y2 y3 y4 y5
                go_quiet (fail)
                go_wp2_with fail
                go_meet
                exact ⟨rfl, rfl, HY.out.drewN _, Below.drewN' HBr.out _, HKr.out.keep (Keeps.of_below (Below.drewN' (Below.refl _ _) _)), HMr.out.keep (Keeps.of_below (Below.drewN' (Below.refl _ _) _))⟩
            · have t5 : (n.kind == 5) = false := by simp; omega
              have hpf : pb = false := by rw [← HPv0.out, t5]; rfl
              subst hpf
              clear hn5
              have y0 := HY.out.c 0
              have y1 := HY.out.c 1
              have y2 := HY.out.c 2
              have y3 := HY.out.c 3
              have y4 := HY.out.c 4
              have y5 := HY.out.c 5
              simp only [List.getElem?_toArray, List.getElem?_cons_zero, List.getElem?_cons_succ] at y0 y1 y2 y3 y4 y5
              go_quiet (fail)
              go_wp2_with fail
              go_meet
              exact ⟨rfl, rfl, HY.out.drewN _, Below.drewN' HBr.out _, HKr.out.keep (Keeps.of_below (Below.drewN' (Below.refl _ _) _)), HMr.out.keep (Keeps.of_below (Below.drewN' (Below.refl _ _) _))⟩
        case rest =>
          obtain ⟨rfl, rfl, HY, HBr, HKr, HMr⟩ := hcut
          clear hW0
          have y0 := HY.out.c 0
          have y1 := HY.out.c 1
          have y2 := HY.out.c 2
          have y3 := HY.out.c 3
          have y4 := HY.out.c 4
          have y5 := HY.out.c 5
          simp only [List.getElem?_toArray, List.getElem?_cons_zero, List.getElem?_cons_succ] at y0 y1 y2 y3 y4 y5
          cases pb with
          | true =>
            have HRf := Lib.hid (show R = false by
              rw [HS.out, HAt.out]
              rw [show pvL (prevN l k) n = false by have h9 := HPb.out; cases hq : pvL (prevN l k) n with | false => rfl | true => rw [hq] at h9; cases h9]
              rfl)
            go_wp2_with fail
            go_ret
            exact InlRes.mk HRf.out.symm HBr.out
          | false =>
            have HPg := Lib.hid (show pvL (prevN l k) n = true by have h9 := HPb.out; cases hq : pvL (prevN l k) n with | true => rfl | false => rw [hq] at h9; cases h9)
            by_cases h1 : n.kind = 1
            · have t1 : (n.kind == 1) = true := by simp; omega
              have t10 : (n.kind == 10) = false := by simp; omega
              have t2 : (n.kind == 2) = false := by simp; omega
              have t3 : (n.kind == 3) = false := by simp; omega
              have t7 : (n.kind == 7) = false := by simp; omega
              have HNb := Lib.hid (show noBlk n.kind = true by rw [h1]; rfl)
              obtain ⟨rl, hrl⟩ : ∃ r, lineB n.kids n.kind = r := ⟨_, rfl⟩
              have HRl := Lib.hid hrl
              have hvr : v2 = rl := by rw [← HV2.out, ← hrl]; unfold blkN; simp [h1]
              subst hvr
              clear hrl h1
              cases v2 with
              | true =>
                have HSn := Lib.hid (show R = blkL (l.drop (k + 1)) (prevN l (k + 1)) by rw [HS.out, HAt.out, HPg.out, HV2.out]; rfl)
                go_wp2_with (go_at_call 40; go_must (refine (goodLine_q n A3 c3 _ HKr.out HEn2.out HNb.out HWk.out).mono ?_); rw [HRl.out]; rintro e w5 ⟨rfl, hb⟩; have HB5 := Lib.hid (HBr.out.trans (hb.mono HBr.out.size)); clear hb)
                go_roundw
                case rel => exact ⟨k + 1, by omega, by go_num, HSn, HB5⟩
                case measure => simp [intOf]; omega
              | false =>
                have HRf := Lib.hid (show R = false by rw [HS.out, HAt.out, HV2.out]; simp)
                go_wp2_with (go_at_call 40; go_must (refine (goodLine_q n A3 c3 _ HKr.out HEn2.out HNb.out HWk.out).mono ?_); rw [HRl.out]; rintro e w5 ⟨rfl, hb⟩; have HB5 := Lib.hid (HBr.out.trans (hb.mono HBr.out.size)); clear hb)
                go_ret
                exact InlRes.mk HRf.out.symm HB5.out
            by_cases h10 : n.kind = 10
            · have t1 : (n.kind == 1) = false := by simp; omega
              have t10 : (n.kind == 10) = true := by simp; omega
              have t2 : (n.kind == 2) = false := by simp; omega
              have t3 : (n.kind == 3) = false := by simp; omega
              have t7 : (n.kind == 7) = false := by simp; omega
              have HNb := Lib.hid (show noBlk n.kind = true by rw [h10]; rfl)
              obtain ⟨rl, hrl⟩ : ∃ r, lineB n.kids n.kind = r := ⟨_, rfl⟩
              have HRl := Lib.hid hrl
              have hvr : v2 = rl := by rw [← HV2.out, ← hrl]; unfold blkN; simp [h10]
              subst hvr
              clear hrl h10
              cases v2 with
              | true =>
                have HSn := Lib.hid (show R = blkL (l.drop (k + 1)) (prevN l (k + 1)) by rw [HS.out, HAt.out, HPg.out, HV2.out]; rfl)
                go_wp2_with (go_at_call 40; go_must (refine (goodLine_q n A3 c3 _ HKr.out HEn2.out HNb.out HWk.out).mono ?_); rw [HRl.out]; rintro e w5 ⟨rfl, hb⟩; have HB5 := Lib.hid (HBr.out.trans (hb.mono HBr.out.size)); clear hb)
                go_roundw
                case rel => exact ⟨k + 1, by omega, by go_num, HSn, HB5⟩
                case measure => simp [intOf]; omega
              | false =>
                have HRf := Lib.hid (show R = false by rw [HS.out, HAt.out, HV2.out]; simp)
                go_wp2_with (go_at_call 40; go_must (refine (goodLine_q n A3 c3 _ HKr.out HEn2.out HNb.out HWk.out).mono ?_); rw [HRl.out]; rintro e w5 ⟨rfl, hb⟩; have HB5 := Lib.hid (HBr.out.trans (hb.mono HBr.out.size)); clear hb)
                go_ret
                exact InlRes.mk HRf.out.symm HB5.out
            by_cases h2 : n.kind = 2
            · have t1 : (n.kind == 1) = false := by simp; omega
              have t10 : (n.kind == 10) = false := by simp; omega
              have t2 : (n.kind == 2) = true := by simp; omega
              have t3 : (n.kind == 3) = false := by simp; omega
              have t7 : (n.kind == 7) = false := by simp; omega
              have HNb := Lib.hid (show noBlk n.kind = true by rw [h2]; rfl)
              obtain ⟨rl, hrl⟩ : ∃ r, lineB n.kids n.kind = r := ⟨_, rfl⟩
              have HRl := Lib.hid hrl
              have HVd := Lib.hid (show v2 = (!n.kids.isEmpty && rl) by rw [← HV2.out, ← hrl]; unfold blkN; simp [h2])
              clear hrl h2
              by_cases hke : n.kids.length = 0
              · have hkz : ((n.kids.length : Int) == 0) = true := by rw [hke]; rfl
                have hvf : v2 = false := by rw [HVd.out, show n.kids = [] from List.length_eq_zero_iff.1 hke]; rfl
                subst hvf
                clear hke
                have HRf := Lib.hid (show R = false by rw [HS.out, HAt.out, HV2.out]; simp)
                go_wp2_with fail
                go_ret
                exact InlRes.mk HRf.out.symm HBr.out
              · have hkz : ((n.kids.length : Int) == 0) = false := by simp; intro e; exact hke (by rw [e]; rfl)
                have hvr : v2 = rl := by
                  rw [HVd.out]
                  cases hks : n.kids with
                  | nil => rw [hks] at hke; exact absurd rfl hke
                  | cons _ _ => simp
                subst hvr
                clear hke
                cases v2 with
                | true =>
                  have HSn := Lib.hid (show R = blkL (l.drop (k + 1)) (prevN l (k + 1)) by rw [HS.out, HAt.out, HPg.out, HV2.out]; rfl)
                  go_wp2_with (go_at_call 40; go_must (refine (goodLine_q n A3 c3 _ HKr.out HEn2.out HNb.out HWk.out).mono ?_); rw [HRl.out]; rintro e w5 ⟨rfl, hb⟩; have HB5 := Lib.hid (HBr.out.trans (hb.mono HBr.out.size)); clear hb)
                  go_roundw
                  case rel => exact ⟨k + 1, by omega, by go_num, HSn, HB5⟩
                  case measure => simp [intOf]; omega
                | false =>
                  have HRf := Lib.hid (show R = false by rw [HS.out, HAt.out, HV2.out]; simp)
                  go_wp2_with (go_at_call 40; go_must (refine (goodLine_q n A3 c3 _ HKr.out HEn2.out HNb.out HWk.out).mono ?_); rw [HRl.out]; rintro e w5 ⟨rfl, hb⟩; have HB5 := Lib.hid (HBr.out.trans (hb.mono HBr.out.size)); clear hb)
                  go_ret
                  exact InlRes.mk HRf.out.symm HB5.out
            by_cases h3 : n.kind = 3
            · have t1 : (n.kind == 1) = false := by simp; omega
              have t10 : (n.kind == 10) = false := by simp; omega
              have t2 : (n.kind == 2) = false := by simp; omega
              have t3 : (n.kind == 3) = true := by simp; omega
              have t7 : (n.kind == 7) = false := by simp; omega
              obtain ⟨rl, hrl⟩ : ∃ r, fenceB n.text n.dest = r := ⟨_, rfl⟩
              have HRl := Lib.hid hrl
              have hvr : v2 = rl := by rw [← HV2.out, ← hrl]; unfold blkN; simp [h3]
              subst hvr
              clear hrl h3
              cases v2 with
              | true =>
                have HSn := Lib.hid (show R = blkL (l.drop (k + 1)) (prevN l (k + 1)) by rw [HS.out, HAt.out, HPg.out, HV2.out]; rfl)
                go_wp2_with (go_at_call 41; go_must (refine (goodFence_r n.kind n.level n.text n.dest n.title A3 n.kids.length c3 _ HSs.out.1 HSs.out.2 HMr.out).mono ?_); rw [HRl.out]; rintro e w5 ⟨rfl, hb⟩; have HB5 := Lib.hid (HBr.out.trans (hb.mono HBr.out.size)); clear hb)
                go_roundw
                case rel => exact ⟨k + 1, by omega, by go_num, HSn, HB5⟩
                case measure => simp [intOf]; omega
              | false =>
                have HRf := Lib.hid (show R = false by rw [HS.out, HAt.out, HV2.out]; simp)
                go_wp2_with (go_at_call 41; go_must (refine (goodFence_r n.kind n.level n.text n.dest n.title A3 n.kids.length c3 _ HSs.out.1 HSs.out.2 HMr.out).mono ?_); rw [HRl.out]; rintro e w5 ⟨rfl, hb⟩; have HB5 := Lib.hid (HBr.out.trans (hb.mono HBr.out.size)); clear hb)
                go_ret
                exact InlRes.mk HRf.out.symm HB5.out
            by_cases h7 : n.kind = 7
            · have t1 : (n.kind == 1) = false := by simp; omega
              have t10 : (n.kind == 10) = false := by simp; omega
              have t2 : (n.kind == 2) = false := by simp; omega
              have t3 : (n.kind == 3) = false := by simp; omega
              have t7 : (n.kind == 7) = true := by simp; omega
              have hvr : v2 = true := by rw [← HV2.out]; unfold blkN; simp [h7]
              subst hvr
              clear h7
              have HSn := Lib.hid (show R = blkL (l.drop (k + 1)) (prevN l (k + 1)) by rw [HS.out, HAt.out, HPg.out, HV2.out]; rfl)
              go_wp2_with fail
              go_roundw
              case rel => exact ⟨k + 1, by omega, by go_num, HSn, HBr⟩
              case measure => simp [intOf]; omega
            have t1 : (n.kind == 1) = false := by simp; omega
            have t10 : (n.kind == 10) = false := by simp; omega
            have t2 : (n.kind == 2) = false := by simp; omega
            have t3 : (n.kind == 3) = false := by simp; omega
            have t7 : (n.kind == 7) = false := by simp; omega
            obtain ⟨rl, hrl⟩ : ∃ r, blkL n.kids none = r := ⟨_, rfl⟩
            have HRl := Lib.hid hrl
            have HVd := Lib.hid (show v2 = (!n.kids.isEmpty && rl) by rw [← HV2.out, ← hrl]; unfold blkN; simp [h1, h10, h2, h3, h7])
            clear hrl h1 h10 h2 h3 h7
            by_cases hke : n.kids.length = 0
            · have hkz : ((n.kids.length : Int) == 0) = true := by rw [hke]; rfl
              have hvf : v2 = false := by rw [HVd.out, show n.kids = [] from List.length_eq_zero_iff.1 hke]; rfl
              subst hvf
              clear hke
              have HRf := Lib.hid (show R = false by rw [HS.out, HAt.out, HV2.out]; simp)
              go_wp2_with fail
              go_ret
              exact InlRes.mk HRf.out.symm HBr.out
            · have hkz : ((n.kids.length : Int) == 0) = false := by simp; intro e; exact hke (by rw [e]; rfl)
              have hvr : v2 = rl := by
                rw [HVd.out]
                cases hks : n.kids with
                | nil => rw [hks] at hke; exact absurd rfl hke
                | cons _ _ => simp
              subst hvr
              clear hke
              cases v2 with
              | true =>
                have HSn := Lib.hid (show R = blkL (l.drop (k + 1)) (prevN l (k + 1)) by rw [HS.out, HAt.out, HPg.out, HV2.out]; rfl)
                go_wp2_with (go_at_call 25; go_must (refine (HI.out n.kids _ n.kind _ HSz.out HKr.out HEn2.out HWk.out HMr.out).mono ?_); rw [HRl.out]; rintro e w5 ⟨rfl, hb⟩; have HB5 := Lib.hid (HBr.out.trans (hb.mono HBr.out.size)); clear hb)
                go_roundw
                case rel => exact ⟨k + 1, by omega, by go_num, HSn, HB5⟩
                case measure => simp [intOf]; omega
              | false =>
                have HRf := Lib.hid (show R = false by rw [HS.out, HAt.out, HV2.out]; simp)
                go_wp2_with (go_at_call 25; go_must (refine (HI.out n.kids _ n.kind _ HSz.out HKr.out HEn2.out HWk.out HMr.out).mono ?_); rw [HRl.out]; rintro e w5 ⟨rfl, hb⟩; have HB5 := Lib.hid (HBr.out.trans (hb.mono HBr.out.size)); clear hb)
                go_ret
                exact InlRes.mk HRf.out.symm HB5.out
      · have HRt := Lib.hid (show R = true by rw [HS.out]; exact blkL_end2 (by omega) _)
        go_wp2_with fail
        go_ret
        exact InlRes.mk HRt.out.symm HB.out


set_option maxHeartbeats 2000000 in
theorem canPrint_q (l : List Node) (v : Value) (w : World) (h : NodesAt w v l) (hw : weight l ≤ 1048576) (hm : MaxA w) : Calls Tryd.prog 9 #[v] w (InlRes (decide (docErr l = 0) && blkL l none) w) := by
  have htt : total l ≤ 1073741824 := by have := total_weight _ l (Nat.le_refl _); omega
  have H := Lib.hid h
  have HM := Lib.hid hm
  clear h hm
  by_cases h0 : docErr l = 0
  · have H0 := Lib.hid h0
    have he : nodesErr l 0 = 0 := by
      unfold docErr at h0
      by_cases h1 : 4000 < total l
      · rw [if_pos h1] at h0; omega
      · rw [if_neg h1] at h0
        by_cases h2 : deepB l 0 0 = true
        · rw [if_pos h2] at h0; omega
        · rw [if_neg h2] at h0; exact h0
    have HE := Lib.hid he
    obtain ⟨r, hr⟩ : ∃ r, blkL l none = r := ⟨_, rfl⟩
    have HR := Lib.hid hr
    have HV := Lib.hid (show (decide (docErr l = 0) && blkL l none) = r by rw [decide_eq_true h0, hr]; rfl)
    clear h0 he hr
    rw [HV.out]
    go_enter Tryd.func9, Tryd.ntmps9
    go_wp2_with fail
    refine (docError_any l v _ H.out htt).mono ?_
    rw [H0.out]
    rintro e w1 ⟨rfl, hb⟩
    have HB := Lib.hid hb; clear hb
    go_wp2_with (go_at_call 25; go_must (refine (goodBlocks_any _ l v 0 _ (Nat.le_refl _) (H.out.keep (Keeps.of_below HB.out)) HE.out (by omega) (HM.out.keep (Keeps.of_below HB.out))).mono ?_); rw [HR.out]; rintro e w2 ⟨rfl, hb⟩; have HB2 := Lib.hid (HB.out.trans (hb.mono HB.out.size)); clear hb)
    go_ret
    exact InlRes.mk rfl HB2.out
  · have g1 : (docErr l == 0) = false := by simp; omega
    have HV := Lib.hid (show (decide (docErr l = 0) && blkL l none) = false by rw [decide_eq_false h0]; rfl)
    clear h0
    rw [HV.out]
    go_enter Tryd.func9, Tryd.ntmps9
    go_wp2_with fail
    refine (docError_any l v _ H.out htt).mono ?_
    rintro e w1 ⟨rfl, hb⟩
    have HB := Lib.hid hb; clear hb
    go_wp2_with fail
    go_ret
    exact InlRes.mk rfl HB.out

end Go.Proofs.YtlganccpgchmeaaDoor
