/-
  Lists of inlines, lines: mark.inlinesFit, lineFits.
-/
import Derived.Test.YtlganccpgchmeaaDoorFitLink
import Derived.StillTailTactics
namespace Go.Proofs.YtlganccpgchmeaaDoor
open Go.RowKit Go.Deep

theorem node_sizes {l : List Node} {k : Nat} {n : Node} (h : l[k]? = some n) : n.text.size + n.dest.size + n.title.size + weight n.kids + 1 ≤ weight l := by
  obtain ⟨hk, rfl⟩ := List.getElem?_eq_some_iff.1 h
  have h3 : ∀ a b : List Node, weight (a ++ b) = weight a + weight b := by intro a b; rw [weight_sum, weight_sum, weight_sum, sumBy_append]
  have h2 : weight l = weight (l.take k) + weight (l.drop k) := by rw [← h3, List.take_append_drop]
  rw [List.drop_eq_getElem_cons hk, weight_cons] at h2
  omega
theorem len_weight (l : List Node) : l.length ≤ weight l := Nat.le_trans (total_len l) (total_weight _ l (Nat.le_refl _))
theorem noBlk_inline {k : Int} (h : isInlineB k = true) : noBlk k = true := by simp [noBlk, h]

set_option maxRecDepth 100000 in
set_option maxHeartbeats 16000000 in
theorem inlinesFit_any (N : Nat) : ∀ (l : List Node) (v : Value) (em st li : Bool) (kd p : Int) (w : World), SizeOf.sizeOf l ≤ N → NodesAt w v l → nodesErr l p = 0 → noBlk p = true → weight l ≤ 1073741824 →
    Calls Tryd.prog 83 #[v, .agg #[.bool em, .bool st, .bool li, .int .i64 kd]] w (InlRes (inlL l none em st li kd) w) := by
  induction N with
  | zero =>
    intro l v em st li kd p w hN
    cases l <;> simp at hN
  | succ N ih =>
    intro l v em st li kd p w hN h he hp hw
    obtain ⟨An, c, bl, o, kv, rfl, hlc, hc, hA, hcell, hkid⟩ := h.inv
    have hll : l.length ≤ 1073741824 := Nat.le_trans (len_weight l) hw
    have HCell := Lib.hid hcell
    have HKid := Lib.hid hkid
    have HN := Lib.hid hN
    have HE := Lib.hid he
    have HP := Lib.hid hp
    have HW := Lib.hid hw
    have HI := Lib.hid ih
    have HA := Lib.hid hA
    obtain ⟨R, hR⟩ : ∃ R, inlL l none em st li kd = R := ⟨_, rfl⟩
    have HR := Lib.hid hR
    rw [hR]
    have HX0 := Lib.hid (CB.new w #[.bool em, .bool st, .bool li, .int .i64 kd] 86)
    have HB0 := Lib.hid ((Below.refl w.heap.size w).alloc (Nat.le_refl _) (.cells #[.bool em, .bool st, .bool li, .int .i64 kd] 86))
    obtain ⟨nw, hnw⟩ : ∃ nw, w.heap.size = nw := ⟨_, rfl⟩
    have HNw := Lib.hid hnw
    rw [hnw] at HX0 HB0
    unfold maxLen at hc
    clear h hcell hkid hN he hp hw ih hA hR
    rw [show (InlRes R w) = fun e w' => e = .returned (.bool R) ∧ Below nw w w' by rw [← hnw]; rfl]
    clear hnw
    go_enter Tryd.func83, Tryd.ntmps83
    go_wp2_with fail
    try rw [HNw.out]
    go_loopw [9] (fun t9 wr => ∃ k : Nat, k ≤ l.length ∧ t9 = .int .i64 k ∧ Hid (R = inlL (l.drop k) (prevN l k) em st li kd) ∧ Hid (CB wr nw 86 #[.bool em, .bool st, .bool li, .int .i64 kd]) ∧ Hid (Below nw w wr)) (fun t _ => l.length - (intOf t).toNat)
    case atStart => exact ⟨0, Nat.zero_le _, rfl, Lib.hid (by rw [← HR.out]; rfl), HX0, HB0⟩
    case round =>
      clear HX0 HB0
      obtain ⟨k, hk, rfl, HS, HX, HB⟩ := hrel
      by_cases hlt : k < l.length
      · obtain rfl := HA.out (by rintro rfl; simp at hlt)
        obtain ⟨n, hn⟩ : ∃ n, l[k]? = some n := ⟨_, List.getElem?_eq_getElem hlt⟩
        have hkeep := Keeps.of_below (by rw [← HNw.out] at HB; exact HB.out)
        obtain ⟨p0, p1, p2, p3, p4, p5, _, _, _, _, _⟩ := (HCell.out k n hn).keep hkeep
        have hkid := (HKid.out k n hn).keep hkeep
        obtain ⟨A3, c3, b3, o3, k3, e3, _, _, _, _, _⟩ := hkid.inv
        rw [e3] at hkid p5
        obtain ⟨en1, en2⟩ := nodesErr_mem HE.out hn
        have hinl := perm_inline (nodeErr_perm en1) HP.out
        have hsz := node_sizes hn
        have hw9 := HW.out
        have HInl := Lib.hid hinl
        have HEn2 := Lib.hid en2
        have HSz := Lib.hid (size_at HN.out hn)
        have HWk := Lib.hid (show weight n.kids ≤ 1073741824 by omega)
        have hts : n.text.size ≤ 1073741824 := by omega
        have HSs := Lib.hid (show n.text.size ≤ 1073741824 ∧ n.dest.size + n.title.size ≤ 1073741824 from ⟨hts, by omega⟩)
        have HAt := Lib.hid (inlL_at em st li kd hn)
        have HNx := Lib.hid hn
        obtain ⟨v2, hv2⟩ : ∃ v2, inlN n em st li kd = v2 := ⟨_, rfl⟩
        have HV2 := Lib.hid hv2
        have HKd := Lib.hid hkid
        have hX1 := HX.out.alloc (.cells #[.int .i64 n.kind, .int .i64 n.level, .string n.text, .string n.dest, .string n.title, .slice A3 n.kids.length c3] 31)
        have HB1 := Lib.hid (HB.out.alloc (by have := HB.out.size; have := HNw.out; omega) (.cells #[.int .i64 n.kind, .int .i64 n.level, .string n.text, .string n.dest, .string n.title, .slice A3 n.kids.length c3] 31))
        have HY1 := Lib.hid (CB.new wr #[.int .i64 n.kind, .int .i64 n.level, .string n.text, .string n.dest, .string n.title, .slice A3 n.kids.length c3] 31)
        have HX1 := Lib.hid hX1
        have HKd1 := Lib.hid (hkid.keep (Keeps.alloc wr (.cells #[.int .i64 n.kind, .int .i64 n.level, .string n.text, .string n.dest, .string n.title, .slice A3 n.kids.length c3] 31)))
        clear e3 hkid en1 en2 hinl hsz hw9 hv2 hX1
        by_cases hk0 : k = 0
        · have HPv := Lib.hid (show pvB (prevN l k) n = true by rw [hk0]; rfl)
          have hg : decide ((0 : Int) < (k : Int)) = false := by simp; omega
          have hgn : ¬ 0 < k := by omega
          clear hn hkeep hk0
          go_wp2_with fail
          go_quiet (fail)
          obtain ⟨W2, hW2⟩ : ∃ W, (wr.alloc (.cells #[.int .i64 n.kind, .int .i64 n.level, .string n.text, .string n.dest, .string n.title, .slice A3 n.kids.length c3] 31)).drewN nq = W := ⟨_, rfl⟩
          have HYr := Lib.hid (show CB W2 wr.heap.size 31 #[.int .i64 n.kind, .int .i64 n.level, .string n.text, .string n.dest, .string n.title, .slice A3 n.kids.length c3] from (by rw [← hW2]; exact HY1.out.drewN nq))
          have HXr := Lib.hid (show CB W2 nw 86 #[.bool em, .bool st, .bool li, .int .i64 kd] from (by rw [← hW2]; exact HX1.out.drewN nq))
          have HBr := Lib.hid (show Below nw w W2 from (by rw [← hW2]; exact Below.drewN' HB1.out nq))
          have HKr := Lib.hid (show NodesAt W2 (.slice A3 n.kids.length c3) n.kids from (by rw [← hW2]; exact HKd1.out.keep (Keeps.of_below (Below.drewN' (Below.refl _ _) nq))))
          rw [hW2]
          clear hW2
          have y0 := HYr.out.c 0
          have y1 := HYr.out.c 1
          have y2 := HYr.out.c 2
          have y3 := HYr.out.c 3
          have y4 := HYr.out.c 4
          have y5 := HYr.out.c 5
          have x0 := HXr.out.c 0
          have x1 := HXr.out.c 1
          have x2 := HXr.out.c 2
          have x3 := HXr.out.c 3
          simp only [List.getElem?_toArray, List.getElem?_cons_zero, List.getElem?_cons_succ] at y0 y1 y2 y3 y4 y5 x0 x1 x2 x3
          cases v2 with
          | true =>
            have HSn := Lib.hid (show R = inlL (l.drop (k + 1)) (prevN l (k + 1)) em st li kd by rw [HS.out, HAt.out, HPv.out, HV2.out]; rfl)
            go_wp2_with (go_at_call 105; go_must (refine (inlineFits_q n A3 c3 em st li kd _ HKr.out HInl.out HSs.out (Nat.le_trans (len_weight _) HWk.out) (fun em st li W' hW' => HI.out n.kids _ em st li kd n.kind W' HSz.out (HKr.out.keep hW') HEn2.out (noBlk_inline HInl.out) HWk.out)).mono ?_); rw [HV2.out]; rintro e w5 ⟨rfl, hb⟩; have HX5 := Lib.hid (HXr.out.below hb); have HB5 := Lib.hid (HBr.out.trans (hb.mono (by have := HBr.out.size; have := HNw.out; omega))); clear hb)
            go_roundw
            case rel => exact ⟨k + 1, by omega, by go_num, HSn, HX5, HB5⟩
            case measure => simp [intOf]; omega
          | false =>
            have HRf := Lib.hid (show R = false by rw [HS.out, HAt.out, HV2.out]; simp)
            go_wp2_with (go_at_call 105; go_must (refine (inlineFits_q n A3 c3 em st li kd _ HKr.out HInl.out HSs.out (Nat.le_trans (len_weight _) HWk.out) (fun em st li W' hW' => HI.out n.kids _ em st li kd n.kind W' HSz.out (HKr.out.keep hW') HEn2.out (noBlk_inline HInl.out) HWk.out)).mono ?_); rw [HV2.out]; rintro e w5 ⟨rfl, hb⟩; have HX5 := Lib.hid (HXr.out.below hb); have HB5 := Lib.hid (HBr.out.trans (hb.mono (by have := HBr.out.size; have := HNw.out; omega))); clear hb)
            go_ret
            exact ⟨ret_bool HRf.out.symm, HB5.out⟩
        · obtain ⟨j, hj⟩ : ∃ j, k = j + 1 := ⟨k - 1, by omega⟩
          obtain ⟨a, ha⟩ : ∃ a, l[j]? = some a := ⟨_, List.getElem?_eq_getElem (by omega)⟩
          obtain ⟨A1, c1, b4, o4, k4, e4, _, _, _, _, _⟩ := (HKid.out j a ha).inv
          obtain ⟨r0, r1, r2, r3, r4, r5, _, _, _, _, _⟩ := (HCell.out j a ha).keep hkeep
          rw [e4] at r5
          have hsa := node_sizes ha
          have hw9 := HW.out
          have hta : a.text.size ≤ 1073741824 := by omega
          have HPvN := Lib.hid (show prevN l k = some a by rw [hj]; exact prevN_succ ha)
          obtain ⟨v1, hv1⟩ : ∃ v1, pairK a.kind n.kind a.text n.text = v1 := ⟨_, rfl⟩
          have HV1 := Lib.hid hv1
          have HPv := Lib.hid (show pvB (prevN l k) n = v1 by rw [HPvN.out]; exact hv1)
          have hg : decide ((0 : Int) < (k : Int)) = true := by simp; omega
          have hgn : 0 < k := by omega
          have hkj : (k : Int) - 1 = (j : Int) := by omega
          have hjl : j < l.length := by omega
          have hjl2 : (j : Int) < (l.length : Int) := by omega
          have hwj : IntKind.i64.wrap (j : Int) = (j : Int) := IntWalk.i64_in _ (by omega)
          have bb := World.block_lt_of_cell? _ _ r0
          simp only at bb
          clear hn ha e4 hsa hw9 hv1 hkeep hk0 hj
          go_wp2_with fail
          obtain ⟨W0, hW0⟩ : ∃ W, wr.alloc (.cells #[.int .i64 n.kind, .int .i64 n.level, .string n.text, .string n.dest, .string n.title, .slice A3 n.kids.length c3] 31) = W := ⟨_, rfl⟩
          rw [hW0]
          obtain ⟨r0, r1, r2, r3, r4, r5⟩ : W0.cell? ⟨bl, o + j * 6, none⟩ = some (.int .i64 a.kind) ∧ W0.cell? ⟨bl, o + j * 6 + 1, none⟩ = some (.int .i64 a.level) ∧ W0.cell? ⟨bl, o + j * 6 + 2, none⟩ = some (.string a.text) ∧ W0.cell? ⟨bl, o + j * 6 + 3, none⟩ = some (.string a.dest) ∧ W0.cell? ⟨bl, o + j * 6 + 4, none⟩ = some (.string a.title) ∧ W0.cell? ⟨bl, o + j * 6 + 5, none⟩ = some (.slice A1 a.kids.length c1) := by
            rw [← hW0]
            exact ⟨Keeps.alloc wr _ _ _ r0, Keeps.alloc wr _ _ _ r1, Keeps.alloc wr _ _ _ r2, Keeps.alloc wr _ _ _ r3, Keeps.alloc wr _ _ _ r4, Keeps.alloc wr _ _ _ r5⟩
          have HY1 := Lib.hid (show CB W0 wr.heap.size 31 #[.int .i64 n.kind, .int .i64 n.level, .string n.text, .string n.dest, .string n.title, .slice A3 n.kids.length c3] by rw [← hW0]; exact HY1.out)
          have HX1 := Lib.hid (show CB W0 nw 86 #[.bool em, .bool st, .bool li, .int .i64 kd] by rw [← hW0]; exact HX1.out)
          have HB1 := Lib.hid (show Below nw w W0 by rw [← hW0]; exact HB1.out)
          have HKd1 := Lib.hid (show NodesAt W0 (.slice A3 n.kids.length c3) n.kids by rw [← hW0]; exact HKd1.out)
          have y0 := HY1.out.c 0
          have y1 := HY1.out.c 1
          have y2 := HY1.out.c 2
          have y3 := HY1.out.c 3
          have y4 := HY1.out.c 4
          have y5 := HY1.out.c 5
          simp only [List.getElem?_toArray, List.getElem?_cons_zero, List.getElem?_cons_succ] at y0 y1 y2 y3 y4 y5
          clear hW0
          go_still_tail 9, (by kernel_rfl)
          change wpList _ _ _ _ _ (World.drew W0)
          obtain ⟨W1, hW1⟩ : ∃ W, World.drew W0 = W := ⟨_, rfl⟩
          have HYr := Lib.hid (show CB W1 wr.heap.size 31 #[.int .i64 n.kind, .int .i64 n.level, .string n.text, .string n.dest, .string n.title, .slice A3 n.kids.length c3] from (by rw [← hW1]; exact HY1.out.drew))
          have HXr := Lib.hid (show CB W1 nw 86 #[.bool em, .bool st, .bool li, .int .i64 kd] from (by rw [← hW1]; exact HX1.out.drew))
          have HBr := Lib.hid (show Below nw w W1 from (by rw [← hW1]; exact HB1.out.drew))
          have HKr := Lib.hid (show NodesAt W1 (.slice A3 n.kids.length c3) n.kids from (by rw [← hW1]; exact HKd1.out.keep (Keeps.of_below (Below.refl _ _).drew)))
          rw [hW1]
          clear hW1 y0 y1 y2 y3 y4 y5 r0 r1 r2 r3 r4 r5
          cases v1 with
          | true =>
            cases v2 with
            | true =>
              have HSn := Lib.hid (show R = inlL (l.drop (k + 1)) (prevN l (k + 1)) em st li kd by rw [HS.out, HAt.out, HPv.out, HV2.out]; rfl)
              go_wp2_with (first | (go_at_call 104; go_must (refine (neighbors_q _ _ _ _ _ _ _ _ _ _ _ _ _ _ _ _ _ _ HV1.out hta hts).mono ?_); rintro e w3 ⟨rfl, hb⟩; have HKr := Lib.hid (HKr.out.keep (Keeps.of_below hb)); have HYr := Lib.hid (HYr.out.below hb); have HXr := Lib.hid (HXr.out.below hb); have HBr := Lib.hid (HBr.out.trans (hb.mono (by have := HBr.out.size; have := HNw.out; omega))); clear hb; have y0 := HYr.out.c 0; have y1 := HYr.out.c 1; have y2 := HYr.out.c 2; have y3 := HYr.out.c 3; have y4 := HYr.out.c 4; have y5 := HYr.out.c 5; have x0 := HXr.out.c 0; have x1 := HXr.out.c 1; have x2 := HXr.out.c 2; have x3 := HXr.out.c 3; simp only [List.getElem?_toArray, List.getElem?_cons_zero, List.getElem?_cons_succ] at y0 y1 y2 y3 y4 y5 x0 x1 x2 x3) | (go_at_call 105; go_must (refine (inlineFits_q n A3 c3 em st li kd _ HKr.out HInl.out HSs.out (Nat.le_trans (len_weight _) HWk.out) (fun em st li W' hW' => HI.out n.kids _ em st li kd n.kind W' HSz.out (HKr.out.keep hW') HEn2.out (noBlk_inline HInl.out) HWk.out)).mono ?_); rw [HV2.out]; rintro e w5 ⟨rfl, hb⟩; have HX5 := Lib.hid (HXr.out.below hb); have HB5 := Lib.hid (HBr.out.trans (hb.mono (by have := HBr.out.size; have := HNw.out; omega))); clear hb))
              go_roundw
              case rel => exact ⟨k + 1, by omega, by go_num, HSn, HX5, HB5⟩
              case measure => simp [intOf]; omega
            | false =>
              have HRf := Lib.hid (show R = false by rw [HS.out, HAt.out, HV2.out]; simp)
              go_wp2_with (first | (go_at_call 104; go_must (refine (neighbors_q _ _ _ _ _ _ _ _ _ _ _ _ _ _ _ _ _ _ HV1.out hta hts).mono ?_); rintro e w3 ⟨rfl, hb⟩; have HKr := Lib.hid (HKr.out.keep (Keeps.of_below hb)); have HYr := Lib.hid (HYr.out.below hb); have HXr := Lib.hid (HXr.out.below hb); have HBr := Lib.hid (HBr.out.trans (hb.mono (by have := HBr.out.size; have := HNw.out; omega))); clear hb; have y0 := HYr.out.c 0; have y1 := HYr.out.c 1; have y2 := HYr.out.c 2; have y3 := HYr.out.c 3; have y4 := HYr.out.c 4; have y5 := HYr.out.c 5; have x0 := HXr.out.c 0; have x1 := HXr.out.c 1; have x2 := HXr.out.c 2; have x3 := HXr.out.c 3; simp only [List.getElem?_toArray, List.getElem?_cons_zero, List.getElem?_cons_succ] at y0 y1 y2 y3 y4 y5 x0 x1 x2 x3) | (go_at_call 105; go_must (refine (inlineFits_q n A3 c3 em st li kd _ HKr.out HInl.out HSs.out (Nat.le_trans (len_weight _) HWk.out) (fun em st li W' hW' => HI.out n.kids _ em st li kd n.kind W' HSz.out (HKr.out.keep hW') HEn2.out (noBlk_inline HInl.out) HWk.out)).mono ?_); rw [HV2.out]; rintro e w5 ⟨rfl, hb⟩; have HX5 := Lib.hid (HXr.out.below hb); have HB5 := Lib.hid (HBr.out.trans (hb.mono (by have := HBr.out.size; have := HNw.out; omega))); clear hb))
              go_ret
              exact ⟨ret_bool HRf.out.symm, HB5.out⟩
          | false =>
            have HRf := Lib.hid (show R = false by rw [HS.out, HAt.out, HPv.out]; simp)
            go_wp2_with (go_at_call 104; go_must (refine (neighbors_q _ _ _ _ _ _ _ _ _ _ _ _ _ _ _ _ _ _ HV1.out hta hts).mono ?_); rintro e w3 ⟨rfl, hb⟩; have HBr := Lib.hid (HBr.out.trans (hb.mono (by have := HBr.out.size; have := HNw.out; omega))); clear hb)
            go_ret
            exact ⟨ret_bool HRf.out.symm, HBr.out⟩
      · have HRt := Lib.hid (show R = true by rw [HS.out]; exact inlL_end2 (by omega) _ _ _ _ _)
        go_wp2_with fail
        go_ret
        exact ⟨ret_bool HRt.out.symm, HB.out⟩

end Go.Proofs.YtlganccpgchmeaaDoor
