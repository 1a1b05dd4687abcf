/-
  Documents that can be printed: mark.blockFits, blocksFit.
-/
import Derived.Test.YtlganccpgchmeaaDoorFitMLine
import Derived.Test.YtlganccpgchmeaaDoorCheck7
namespace Go.Proofs.YtlganccpgchmeaaDoor
open Go.RowKit Go.Deep

set_option maxRecDepth 100000 in
set_option maxHeartbeats 8000000 in
theorem blockFits_q (n : Node) (A : Option Addr) (c : Nat) (w : World) (h : NodesAt w (.slice A n.kids.length c) n.kids) (he : nodesErr n.kids n.kind = 0) (hsz : n.text.size ≤ 1073741824 ∧ n.dest.size ≤ 1073741824) (hw : weight n.kids ≤ 1073741824) (hm : MaxA w)
    (hrec : ∀ W, Keeps w W → Calls Tryd.prog 24 #[.slice A n.kids.length c] W (InlRes (blkL n.kids none) W)) :
    Calls Tryd.prog 39 #[.agg #[.int .i64 n.kind, .int .i64 n.level, .string n.text, .string n.dest, .string n.title, .slice A n.kids.length c]] w (InlRes (blkN n) w) := by
  obtain ⟨k, lv, x, d, t, ks⟩ := n
  simp only [Node.kids, Node.text, Node.dest, Node.kind] at h he hsz hw hrec
  simp only [Node.kids, Node.text, Node.dest, Node.title, Node.kind, Node.level]
  obtain ⟨hx, hd⟩ := hsz
  have HB := Lib.hid ((Below.refl w.heap.size w).alloc (Nat.le_refl _) (.cells #[.int .i64 k, .int .i64 lv, .string x, .string d, .string t, .slice A ks.length c] 31))
  have HX := Lib.hid (CB.new w #[.int .i64 k, .int .i64 lv, .string x, .string d, .string t, .slice A ks.length c] 31)
  have HK := Lib.hid (h.keep (Keeps.of_below HB.out))
  have hlw : ks.length ≤ 1073741824 := Nat.le_trans (len_weight ks) hw
  have HM := Lib.hid (hm.keep (Keeps.of_below HB.out))
  have HRec := Lib.hid (hrec _ (Keeps.of_below HB.out))
  have HLn := Lib.hid (fun (k : Int) (he : nodesErr ks k = 0) (hp : noBlk k = true) (hs : star k = false) => lineFits_q ks _ k _ (h.keep (Keeps.of_below HB.out)) he hp hs hw)
  have HFe := Lib.hid (fenceFits_q k lv x d t A ks.length c (w.alloc (.cells #[.int .i64 k, .int .i64 lv, .string x, .string d, .string t, .slice A ks.length c] 31)) hx hd (hm.keep (Keeps.of_below HB.out)))
  clear h hm hrec
  by_cases h7 : k = 7
  · subst h7
    have HV := Lib.hid (show blkN (.mk 7 lv x d t ks) = true from rfl)
    go_enter Tryd.func39, Tryd.ntmps39
    go_wp2_with fail
    go_ret
    exact InlRes.mk HV.out.symm HB.out
  by_cases h3 : k = 3
  · subst h3
    have HV := Lib.hid (show blkN (.mk 3 lv x d t ks) = fenceB x d from rfl)
    go_enter Tryd.func39, Tryd.ntmps39
    go_wp2_with (go_at_call 57; go_must (refine HFe.out.mono ?_); rintro e w3 ⟨rfl, hb⟩; have HB2 := Lib.hid (HB.out.trans (hb.mono HB.out.size)))
    go_ret
    exact InlRes.mk HV.out.symm HB2.out
  by_cases h1 : k = 1
  · subst h1
    obtain ⟨r, hr⟩ : ∃ r, lineB ks 1 = r := ⟨_, rfl⟩
    have HR := Lib.hid hr
    have HE := Lib.hid he
    have HV := Lib.hid (show blkN (.mk 1 lv x d t ks) = r from hr)
    clear he hr
    go_enter Tryd.func39, Tryd.ntmps39
    go_wp2_with (go_at_call 58; go_must (refine (HLn.out 1 HE.out (by decide) (by decide)).mono ?_); rw [HR.out]; rintro e w3 ⟨rfl, hb⟩; have HB2 := Lib.hid (HB.out.trans (hb.mono HB.out.size)))
    go_ret
    exact InlRes.mk HV.out.symm HB2.out
  by_cases h10 : k = 10
  · subst h10
    obtain ⟨r, hr⟩ : ∃ r, lineB ks 10 = r := ⟨_, rfl⟩
    have HR := Lib.hid hr
    have HE := Lib.hid he
    have HV := Lib.hid (show blkN (.mk 10 lv x d t ks) = r from hr)
    clear he hr
    go_enter Tryd.func39, Tryd.ntmps39
    go_wp2_with (go_at_call 58; go_must (refine (HLn.out 10 HE.out (by decide) (by decide)).mono ?_); rw [HR.out]; rintro e w3 ⟨rfl, hb⟩; have HB2 := Lib.hid (HB.out.trans (hb.mono HB.out.size)))
    go_ret
    exact InlRes.mk HV.out.symm HB2.out
  by_cases h2 : k = 2
  · subst h2
    obtain ⟨r, hr⟩ : ∃ r, lineB ks 2 = r := ⟨_, rfl⟩
    have HR := Lib.hid hr
    have HE := Lib.hid he
    have HV0 := Lib.hid (show blkN (.mk 2 lv x d t ks) = (!ks.isEmpty && r) by rw [← hr]; rfl)
    clear he hr
    by_cases hke : ks.length = 0
    · have hkz : decide (0 < (ks.length : Int)) = false := by rw [hke]; rfl
      have hkz2 : ¬ 0 < ks.length := by omega
      have HV := Lib.hid (show blkN (.mk 2 lv x d t ks) = false by rw [HV0.out]; have : ks = [] := List.length_eq_zero_iff.1 hke; rw [this]; simp)
      clear hke
      go_enter Tryd.func39, Tryd.ntmps39
      go_wp2_with fail
      go_ret
      exact InlRes.mk HV.out.symm HB.out
    · have hkz : decide (0 < (ks.length : Int)) = true := by simp; omega
      have hkz2 : 0 < ks.length := by omega
      have HV := Lib.hid (show blkN (.mk 2 lv x d t ks) = r by
        rw [HV0.out]
        cases ks with
        | nil => simp at hkz2
        | cons _ _ => simp)
      clear hke
      go_enter Tryd.func39, Tryd.ntmps39
      go_wp2_with (go_at_call 58; go_must (refine (HLn.out 2 HE.out (by decide) (by decide)).mono ?_); rw [HR.out]; rintro e w3 ⟨rfl, hb⟩; have HB2 := Lib.hid (HB.out.trans (hb.mono HB.out.size)))
      go_ret
      exact InlRes.mk HV.out.symm HB2.out
  obtain ⟨r, hr⟩ : ∃ r, blkL ks none = r := ⟨_, rfl⟩
  have HR := Lib.hid hr
  have HV0 := Lib.hid (show blkN (.mk k lv x d t ks) = (!ks.isEmpty && r) by
    rw [← hr]
    show (if k = 7 then _ else if k = 3 then _ else if k = 1 then _ else if k = 2 then _ else if k = 10 then _ else _) = _
    rw [if_neg h7, if_neg h3, if_neg h1, if_neg h2, if_neg h10]; rfl)
  have t7 : (k == 7) = false := by simp; omega
  have t3 : (k == 3) = false := by simp; omega
  have t1 : (k == 1) = false := by simp; omega
  have t2 : (k == 2) = false := by simp; omega
  have t10 : (k == 10) = false := by simp; omega
  clear h7 h3 h1 h2 h10 he hr
  by_cases hke : ks.length = 0
  · have hkz : decide (0 < (ks.length : Int)) = false := by rw [hke]; rfl
    have hkz2 : ¬ 0 < ks.length := by omega
    have HV := Lib.hid (show blkN (.mk k lv x d t ks) = false by rw [HV0.out]; have : ks = [] := List.length_eq_zero_iff.1 hke; rw [this]; simp)
    clear hke
    go_enter Tryd.func39, Tryd.ntmps39
    go_wp2_with fail
    go_ret
    exact InlRes.mk HV.out.symm HB.out
  · have hkz : decide (0 < (ks.length : Int)) = true := by simp; omega
    have hkz2 : 0 < ks.length := by omega
    have HV := Lib.hid (show blkN (.mk k lv x d t ks) = r by
      rw [HV0.out]
      cases ks with
      | nil => simp at hkz2
      | cons _ _ => simp)
    clear hke
    go_enter Tryd.func39, Tryd.ntmps39
    go_wp2_with (go_at_call 24; go_must (refine HRec.out.mono ?_); rw [HR.out]; rintro e w3 ⟨rfl, hb⟩; have HB2 := Lib.hid (HB.out.trans (hb.mono HB.out.size)))
    go_ret
    exact InlRes.mk HV.out.symm HB2.out

set_option maxRecDepth 100000 in
set_option maxHeartbeats 16000000 in
theorem blocksFit_any (N : Nat) : ∀ (l : List Node) (v : Value) (p : Int) (w : World), SizeOf.sizeOf l ≤ N → NodesAt w v l → nodesErr l p = 0 → weight l ≤ 1073741824 → MaxA w →
    Calls Tryd.prog 24 #[v] w (InlRes (blkL l none) w) := by
  induction N with
  | zero =>
    intro l v p w hN
    cases l <;> simp at hN
  | succ N ih =>
    intro l v p w hN h he hw hm
    obtain ⟨An, c, bl, o, kv, rfl, hlc, hc, hA, hcell, hkid⟩ := h.inv
    have hll : l.length ≤ 1073741824 := Nat.le_trans (len_weight l) hw
    have HCell := Lib.hid hcell
    have HKid := Lib.hid hkid
    have HN := Lib.hid hN
    have HE := Lib.hid he
    have HW := Lib.hid hw
    have HI := Lib.hid ih
    have HA := Lib.hid hA
    have HM := Lib.hid hm
    obtain ⟨R, hR⟩ : ∃ R, blkL l none = R := ⟨_, rfl⟩
    have HR := Lib.hid hR
    rw [hR]
    unfold maxLen at hc
    clear h hcell hkid hN he hw ih hA hR hm
    go_enter Tryd.func24, Tryd.ntmps24
    go_wp2_with fail
    go_loopw [7] (fun t7 wr => ∃ k : Nat, k ≤ l.length ∧ t7 = .int .i64 k ∧ Hid (R = blkL (l.drop k) (prevN l k)) ∧ Hid (Below w.heap.size w wr)) (fun t _ => l.length - (intOf t).toNat)
    case atStart => exact ⟨0, Nat.zero_le _, rfl, Lib.hid (by rw [← HR.out]; rfl), Below.refl _ _⟩
    case round =>
      obtain ⟨k, hk, rfl, HS, HB⟩ := hrel
      by_cases hlt : k < l.length
      · obtain rfl := HA.out (by rintro rfl; simp at hlt)
        obtain ⟨n, hn⟩ : ∃ n, l[k]? = some n := ⟨_, List.getElem?_eq_getElem hlt⟩
        have hkeep := Keeps.of_below HB.out
        obtain ⟨p0, p1, p2, p3, p4, p5, _, _, _, _, _⟩ := (HCell.out k n hn).keep hkeep
        have hkid := (HKid.out k n hn).keep hkeep
        obtain ⟨A3, c3, b3, o3, k3, e3, _, _, _, _, _⟩ := hkid.inv
        rw [e3] at hkid p5
        obtain ⟨en1, en2⟩ := nodesErr_mem HE.out hn
        have hsz := node_sizes hn
        have hw9 := HW.out
        have HEn2 := Lib.hid en2
        have HSz := Lib.hid (size_at HN.out hn)
        have HWk := Lib.hid (show weight n.kids ≤ 1073741824 by omega)
        have HSs := Lib.hid (show n.text.size ≤ 1073741824 ∧ n.dest.size ≤ 1073741824 from ⟨by omega, by omega⟩)
        have HAt := Lib.hid (blkL_at hn)
        have bb := World.block_lt_of_cell? _ _ p0
        simp only at bb
        obtain ⟨v2, hv2⟩ : ∃ v2, blkN n = v2 := ⟨_, rfl⟩
        have HV2 := Lib.hid hv2
        obtain ⟨W0, hW0⟩ : ∃ W, wr.alloc (.cells #[.int .i64 n.kind, .int .i64 n.level, .string n.text, .string n.dest, .string n.title, .slice A3 n.kids.length c3] 31) = W := ⟨_, rfl⟩
        have HY := Lib.hid (show CB W0 wr.heap.size 31 #[.int .i64 n.kind, .int .i64 n.level, .string n.text, .string n.dest, .string n.title, .slice A3 n.kids.length c3] by rw [← hW0]; exact CB.new _ _ _)
        have HBr := Lib.hid (show Below w.heap.size w W0 by rw [← hW0]; exact HB.out.alloc HB.out.size _)
        have HKr := Lib.hid (show NodesAt W0 (.slice A3 n.kids.length c3) n.kids by rw [← hW0]; exact hkid.keep (Keeps.alloc _ _))
        have HMr := Lib.hid (show MaxA W0 by rw [← hW0]; exact HM.out.keep (Keeps.of_below (HB.out.alloc HB.out.size _)))
        by_cases hk0 : k = 0
        · have HPv := Lib.hid (show pvL (prevN l k) n = true by rw [hk0]; rfl)
          have hg : decide ((0 : Int) < (k : Int)) = false := by simp; omega
          have hgn : ¬ 0 < k := by omega
          clear hn hkeep hkid en1 en2 hsz hw9 hv2 e3 hk0
          go_wp2_with fail
          try rw [hW0]
          clear hW0 p0 p1 p2 p3 p4 p5
          have y0 := HY.out.c 0
          have y1 := HY.out.c 1
          have y2 := HY.out.c 2
          have y3 := HY.out.c 3
          have y4 := HY.out.c 4
          have y5 := HY.out.c 5
          simp only [List.getElem?_toArray, List.getElem?_cons_zero, List.getElem?_cons_succ] at y0 y1 y2 y3 y4 y5
          go_quiet (fail)
          cases v2 with
          | true =>
            have HSn := Lib.hid (show R = blkL (l.drop (k + 1)) (prevN l (k + 1)) by rw [HS.out, HAt.out, HPv.out, HV2.out]; rfl)
            go_wp2_with (go_at_call 39; go_must (refine (blockFits_q n A3 c3 _ (HKr.out.keep (Keeps.of_below (Below.drewN' (Below.refl _ _) _))) HEn2.out HSs.out HWk.out (HMr.out.keep (Keeps.of_below (Below.drewN' (Below.refl _ _) _))) (fun W hW => HI.out n.kids _ n.kind W HSz.out ((HKr.out.keep (Keeps.of_below (Below.drewN' (Below.refl _ _) _))).keep hW) HEn2.out HWk.out ((HMr.out.keep (Keeps.of_below (Below.drewN' (Below.refl _ _) _))).keep hW))).mono ?_); rw [HV2.out]; rintro e w5 ⟨rfl, hb⟩; have HB5 := Lib.hid ((Below.drewN' HBr.out nq).trans (hb.mono (Below.drewN' HBr.out nq).size)); clear hb)
            go_roundw
            case rel => exact ⟨k + 1, by omega, by go_num, HSn, HB5⟩
            case measure => simp [intOf]; omega
          | false =>
            have HRf := Lib.hid (show R = false by rw [HS.out, HAt.out, HV2.out]; simp)
            go_wp2_with (go_at_call 39; go_must (refine (blockFits_q n A3 c3 _ (HKr.out.keep (Keeps.of_below (Below.drewN' (Below.refl _ _) _))) HEn2.out HSs.out HWk.out (HMr.out.keep (Keeps.of_below (Below.drewN' (Below.refl _ _) _))) (fun W hW => HI.out n.kids _ n.kind W HSz.out ((HKr.out.keep (Keeps.of_below (Below.drewN' (Below.refl _ _) _))).keep hW) HEn2.out HWk.out ((HMr.out.keep (Keeps.of_below (Below.drewN' (Below.refl _ _) _))).keep hW))).mono ?_); rw [HV2.out]; rintro e w5 ⟨rfl, hb⟩; have HB5 := Lib.hid ((Below.drewN' HBr.out nq).trans (hb.mono (Below.drewN' HBr.out nq).size)); clear hb)
            go_ret
            exact InlRes.mk HRf.out.symm HB5.out
        · obtain ⟨j, hj⟩ : ∃ j, k = j + 1 := ⟨k - 1, by omega⟩
          obtain ⟨a, ha⟩ : ∃ a, l[j]? = some a := ⟨_, List.getElem?_eq_getElem (by omega)⟩
          obtain ⟨r0', r1', _, _, _, _, _, _, _, _, _⟩ := (HCell.out j a ha).keep hkeep
          have r0 : W0.cell? ⟨bl, o + j * 6, none⟩ = some (.int .i64 a.kind) := by rw [← hW0]; exact Keeps.alloc wr _ _ _ r0'
          have r1 : W0.cell? ⟨bl, o + j * 6 + 1, none⟩ = some (.int .i64 a.level) := by rw [← hW0]; exact Keeps.alloc wr _ _ _ r1'
          have HPvN := Lib.hid (show prevN l k = some a by rw [hj]; exact prevN_succ ha)
          have hg : decide ((0 : Int) < (k : Int)) = true := by simp; omega
          have hgn : 0 < k := by omega
          have hkj : (k : Int) - 1 = (j : Int) := by omega
          have hjl : j < l.length := by omega
          have hjl2 : (j : Int) < (l.length : Int) := by omega
          have hwj : IntKind.i64.wrap (j : Int) = (j : Int) := IntWalk.i64_in _ (by omega)
          obtain ⟨ll, hll2⟩ : ∃ b, (decide (n.level < 0) == decide (a.level < 0)) = b := ⟨_, rfl⟩
          have HPv0 := Lib.hid (show pvL (prevN l k) n = !(n.kind == 5 && a.kind == 5 && ll) by rw [HPvN.out, ← hll2]; rfl)
          clear hn ha hkeep hkid en1 en2 hsz hw9 hv2 e3 hk0 hj r0' r1'
          by_cases hn5 : n.kind = 5
          · have t5 : (n.kind == 5) = true := by simp; omega
            by_cases ha5 : a.kind = 5
            · have t6 : (a.kind == 5) = true := by simp; omega
              cases ll with
              | true =>
                have HRf := Lib.hid (show R = false by rw [HS.out, HAt.out, HPv0.out, t5, t6]; simp)
                clear hn5 ha5
                go_wp2_with fail
                try rw [hW0]
                clear hW0 p0 p1 p2 p3 p4 p5
                have y0 := HY.out.c 0
                have y1 := HY.out.c 1
                have y2 := HY.out.c 2
                have y3 := HY.out.c 3
                have y4 := HY.out.c 4
                have y5 := HY.out.c 5
                simp only [List.getElem?_toArray, List.getElem?_cons_zero, List.getElem?_cons_succ] at y0 y1 y2 y3 y4 y5
                go_quiet (fail)
                go_wp2_with fail
                go_ret
                exact InlRes.mk HRf.out.symm (Below.drewN' HBr.out _)
              | false =>
                have HPv := Lib.hid (show pvL (prevN l k) n = true by rw [HPv0.out, t5, t6]; rfl)
                clear hn5 ha5
                go_wp2_with fail
                try rw [hW0]
                clear hW0 p0 p1 p2 p3 p4 p5
                have y0 := HY.out.c 0
                have y1 := HY.out.c 1
                have y2 := HY.out.c 2
                have y3 := HY.out.c 3
                have y4 := HY.out.c 4
                have y5 := HY.out.c 5
                simp only [List.getElem?_toArray, List.getElem?_cons_zero, List.getElem?_cons_succ] at y0 y1 y2 y3 y4 y5
                go_quiet (fail)
                cases v2 with
                | true =>
                  have HSn := Lib.hid (show R = blkL (l.drop (k + 1)) (prevN l (k + 1)) by rw [HS.out, HAt.out, HPv.out, HV2.out]; rfl)
                  go_wp2_with (go_at_call 39; go_must (refine (blockFits_q n A3 c3 _ (HKr.out.keep (Keeps.of_below (Below.drewN' (Below.refl _ _) _))) HEn2.out HSs.out HWk.out (HMr.out.keep (Keeps.of_below (Below.drewN' (Below.refl _ _) _))) (fun W hW => HI.out n.kids _ n.kind W HSz.out ((HKr.out.keep (Keeps.of_below (Below.drewN' (Below.refl _ _) _))).keep hW) HEn2.out HWk.out ((HMr.out.keep (Keeps.of_below (Below.drewN' (Below.refl _ _) _))).keep hW))).mono ?_); rw [HV2.out]; rintro e w5 ⟨rfl, hb⟩; have HB5 := Lib.hid ((Below.drewN' HBr.out nq).trans (hb.mono (Below.drewN' HBr.out nq).size)); clear hb)
                  go_roundw
                  case rel => exact ⟨k + 1, by omega, by go_num, HSn, HB5⟩
                  case measure => simp [intOf]; omega
                | false =>
                  have HRf := Lib.hid (show R = false by rw [HS.out, HAt.out, HV2.out]; simp)
                  go_wp2_with (go_at_call 39; go_must (refine (blockFits_q n A3 c3 _ (HKr.out.keep (Keeps.of_below (Below.drewN' (Below.refl _ _) _))) HEn2.out HSs.out HWk.out (HMr.out.keep (Keeps.of_below (Below.drewN' (Below.refl _ _) _))) (fun W hW => HI.out n.kids _ n.kind W HSz.out ((HKr.out.keep (Keeps.of_below (Below.drewN' (Below.refl _ _) _))).keep hW) HEn2.out HWk.out ((HMr.out.keep (Keeps.of_below (Below.drewN' (Below.refl _ _) _))).keep hW))).mono ?_); rw [HV2.out]; rintro e w5 ⟨rfl, hb⟩; have HB5 := Lib.hid ((Below.drewN' HBr.out nq).trans (hb.mono (Below.drewN' HBr.out nq).size)); clear hb)
                  go_ret
                  exact InlRes.mk HRf.out.symm HB5.out
            · have t6 : (a.kind == 5) = false := by simp; omega
              have HPv := Lib.hid (show pvL (prevN l k) n = true by rw [HPv0.out, t5, t6]; rfl)
              clear hn5 ha5
              go_wp2_with fail
              try rw [hW0]
              clear hW0 p0 p1 p2 p3 p4 p5
              have y0 := HY.out.c 0
              have y1 := HY.out.c 1
              have y2 := HY.out.c 2
              have y3 := HY.out.c 3
              have y4 := HY.out.c 4
              have y5 := HY.out.c 5
              simp only [List.getElem?_toArray, List.getElem?_cons_zero, List.getElem?_cons_succ] at y0 y1 y2 y3 y4 y5
              go_quiet (fail)
              cases v2 with
              | true =>
                have HSn := Lib.hid (show R = blkL (l.drop (k + 1)) (prevN l (k + 1)) by rw [HS.out, HAt.out, HPv.out, HV2.out]; rfl)
                go_wp2_with (go_at_call 39; go_must (refine (blockFits_q n A3 c3 _ (HKr.out.keep (Keeps.of_below (Below.drewN' (Below.refl _ _) _))) HEn2.out HSs.out HWk.out (HMr.out.keep (Keeps.of_below (Below.drewN' (Below.refl _ _) _))) (fun W hW => HI.out n.kids _ n.kind W HSz.out ((HKr.out.keep (Keeps.of_below (Below.drewN' (Below.refl _ _) _))).keep hW) HEn2.out HWk.out ((HMr.out.keep (Keeps.of_below (Below.drewN' (Below.refl _ _) _))).keep hW))).mono ?_); rw [HV2.out]; rintro e w5 ⟨rfl, hb⟩; have HB5 := Lib.hid ((Below.drewN' HBr.out nq).trans (hb.mono (Below.drewN' HBr.out nq).size)); clear hb)
                go_roundw
                case rel => exact ⟨k + 1, by omega, by go_num, HSn, HB5⟩
                case measure => simp [intOf]; omega
              | false =>
                have HRf := Lib.hid (show R = false by rw [HS.out, HAt.out, HV2.out]; simp)
                go_wp2_with (go_at_call 39; go_must (refine (blockFits_q n A3 c3 _ (HKr.out.keep (Keeps.of_below (Below.drewN' (Below.refl _ _) _))) HEn2.out HSs.out HWk.out (HMr.out.keep (Keeps.of_below (Below.drewN' (Below.refl _ _) _))) (fun W hW => HI.out n.kids _ n.kind W HSz.out ((HKr.out.keep (Keeps.of_below (Below.drewN' (Below.refl _ _) _))).keep hW) HEn2.out HWk.out ((HMr.out.keep (Keeps.of_below (Below.drewN' (Below.refl _ _) _))).keep hW))).mono ?_); rw [HV2.out]; rintro e w5 ⟨rfl, hb⟩; have HB5 := Lib.hid ((Below.drewN' HBr.out nq).trans (hb.mono (Below.drewN' HBr.out nq).size)); clear hb)
                go_ret
                exact InlRes.mk HRf.out.symm HB5.out
          · have t5 : (n.kind == 5) = false := by simp; omega
            have HPv := Lib.hid (show pvL (prevN l k) n = true by rw [HPv0.out, t5]; rfl)
            clear hn5
            go_wp2_with fail
            try rw [hW0]
            clear hW0 p0 p1 p2 p3 p4 p5
            have y0 := HY.out.c 0
            have y1 := HY.out.c 1
            have y2 := HY.out.c 2
            have y3 := HY.out.c 3
            have y4 := HY.out.c 4
            have y5 := HY.out.c 5
            simp only [List.getElem?_toArray, List.getElem?_cons_zero, List.getElem?_cons_succ] at y0 y1 y2 y3 y4 y5
            go_quiet (fail)
            cases v2 with
            | true =>
              have HSn := Lib.hid (show R = blkL (l.drop (k + 1)) (prevN l (k + 1)) by rw [HS.out, HAt.out, HPv.out, HV2.out]; rfl)
              go_wp2_with (go_at_call 39; go_must (refine (blockFits_q n A3 c3 _ (HKr.out.keep (Keeps.of_below (Below.drewN' (Below.refl _ _) _))) HEn2.out HSs.out HWk.out (HMr.out.keep (Keeps.of_below (Below.drewN' (Below.refl _ _) _))) (fun W hW => HI.out n.kids _ n.kind W HSz.out ((HKr.out.keep (Keeps.of_below (Below.drewN' (Below.refl _ _) _))).keep hW) HEn2.out HWk.out ((HMr.out.keep (Keeps.of_below (Below.drewN' (Below.refl _ _) _))).keep hW))).mono ?_); rw [HV2.out]; rintro e w5 ⟨rfl, hb⟩; have HB5 := Lib.hid ((Below.drewN' HBr.out nq).trans (hb.mono (Below.drewN' HBr.out nq).size)); clear hb)
              go_roundw
              case rel => exact ⟨k + 1, by omega, by go_num, HSn, HB5⟩
              case measure => simp [intOf]; omega
            | false =>
              have HRf := Lib.hid (show R = false by rw [HS.out, HAt.out, HV2.out]; simp)
              go_wp2_with (go_at_call 39; go_must (refine (blockFits_q n A3 c3 _ (HKr.out.keep (Keeps.of_below (Below.drewN' (Below.refl _ _) _))) HEn2.out HSs.out HWk.out (HMr.out.keep (Keeps.of_below (Below.drewN' (Below.refl _ _) _))) (fun W hW => HI.out n.kids _ n.kind W HSz.out ((HKr.out.keep (Keeps.of_below (Below.drewN' (Below.refl _ _) _))).keep hW) HEn2.out HWk.out ((HMr.out.keep (Keeps.of_below (Below.drewN' (Below.refl _ _) _))).keep hW))).mono ?_); rw [HV2.out]; rintro e w5 ⟨rfl, hb⟩; have HB5 := Lib.hid ((Below.drewN' HBr.out nq).trans (hb.mono (Below.drewN' HBr.out nq).size)); clear hb)
              go_ret
              exact InlRes.mk HRf.out.symm HB5.out
      · have HRt := Lib.hid (show R = true by rw [HS.out]; exact blkL_end2 (by omega) _)
        go_wp2_with fail
        go_ret
        exact InlRes.mk HRt.out.symm HB.out


set_option maxHeartbeats 2000000 in
theorem printable_q (l : List Node) (v : Value) (w : World) (h : NodesAt w v l) (hw : weight l ≤ 1048576) (hm : MaxA w) : Calls Tryd.prog 8 #[v] w (InlRes (decide (docErr l = 0) && blkL l none) w) := by
  have htt : total l ≤ 1073741824 := by have := total_weight _ l (Nat.le_refl _); omega
  have H := Lib.hid h
  have HM := Lib.hid hm
  clear h hm
  by_cases h0 : docErr l = 0
  · have H0 := Lib.hid h0
    have he : nodesErr l 0 = 0 := by
      unfold docErr at h0
      by_cases h1 : 4000 < total l
      · rw [if_pos h1] at h0; omega
      · rw [if_neg h1] at h0
        by_cases h2 : deepB l 0 0 = true
        · rw [if_pos h2] at h0; omega
        · rw [if_neg h2] at h0; exact h0
    have HE := Lib.hid he
    obtain ⟨r, hr⟩ : ∃ r, blkL l none = r := ⟨_, rfl⟩
    have HR := Lib.hid hr
    have HV := Lib.hid (show (decide (docErr l = 0) && blkL l none) = r by rw [decide_eq_true h0, hr]; rfl)
    clear h0 he hr
    rw [HV.out]
    go_enter Tryd.func8, Tryd.ntmps8
    go_wp2_with fail
    refine (check_any l v _ H.out htt).mono ?_
    rw [H0.out]
    rintro e w1 ⟨rfl, hb⟩
    have HB := Lib.hid hb; clear hb
    go_wp2_with (go_at_call 24; go_must (refine (blocksFit_any _ l v 0 _ (Nat.le_refl _) (H.out.keep (Keeps.of_below HB.out)) HE.out (by omega) (HM.out.keep (Keeps.of_below HB.out))).mono ?_); rw [HR.out]; rintro e w2 ⟨rfl, hb⟩; have HB2 := Lib.hid (HB.out.trans (hb.mono HB.out.size)); clear hb)
    go_ret
    exact InlRes.mk rfl HB2.out
  · have g1 : (docErr l == 0) = false := by simp; omega
    have HV := Lib.hid (show (decide (docErr l = 0) && blkL l none) = false by rw [decide_eq_false h0]; rfl)
    clear h0
    rw [HV.out]
    go_enter Tryd.func8, Tryd.ntmps8
    go_wp2_with fail
    refine (check_any l v _ H.out htt).mono ?_
    rintro e w1 ⟨rfl, hb⟩
    have HB := Lib.hid hb; clear hb
    go_wp2_with fail
    go_ret
    exact InlRes.mk rfl HB.out

end Go.Proofs.YtlganccpgchmeaaDoor
