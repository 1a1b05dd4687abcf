/-
  The law of sections, walked.
-/
import Derived.Test.YtlganccpgchmeaaDoorSec
import Derived.Test.YtlganccpgchmeaaDoorEnts
import Derived.Test.YtlganccpgchmeaaDoorSameDoc
namespace Go.Proofs.YtlganccpgchmeaaDoor
open Go.RowKit Go.ChangeShapes Go.WideShapes Go.Deep

set_option maxRecDepth 100000 in
set_option maxHeartbeats 8000000 in
theorem markSections_walk (l : List Node) (v : Value) (s : ByteArray) (w : World) (h : NodesAt w v l) (hw : weight l ≤ 1048576) (htab : TabOk w) : Calls Tryd.prog 4 #[v, .string s] w fun e w' => e = .returned (.bool true) ∧ Below w.heap.size w w' := by
  have H := Lib.hid h
  have HTab := Lib.hid htab
  obtain ⟨An, cn, bl, ol, kv, rfl, hlc, hcn, hA, hcell, hkid⟩ := h.inv
  have HCm := Lib.hid hcn
  have HA := Lib.hid hA
  have HCell := Lib.hid hcell
  have HKid := Lib.hid hkid
  have htt : total l ≤ 1073741824 := by have := total_weight _ l (Nat.le_refl _); omega
  unfold maxLen at hcn
  obtain ⟨N, hN⟩ : ∃ N, w.heap.size = N := ⟨_, rfl⟩
  have HN := Lib.hid hN
  clear hA hcell hkid
  have HSe := Lib.hid (section_q l (.slice An l.length cn) s)
  rw [hN]
  clear h htab hN
  by_cases h0 : docErr l = 0
  · have ht : total l ≤ 4000 := (docErr_zero h0).1
    have hll : l.length ≤ 4000 := by have := total_len l; omega
    have H0 := Lib.hid h0; clear h0
    go_enter Tryd.func4, Tryd.ntmps4
    go_wp2_with fail
    refine (HSe.out w H.out hw HTab.out).mono ?_
    rintro e w1 ⟨hb, ⟨hx, _⟩ | ⟨_, hno, rfl⟩ | ⟨_, ri, rk, rx, Ar, cr, hfi, hrx, hre, rfl, hrn⟩⟩
    · exact absurd H0.out hx
    · rw [HN.out] at hb
      have HB1 := Lib.hid hb
      have HNone := Lib.hid hno
      clear hno
      clear hb
      go_wp2_with fail
      refine (docError_any l _ _ (H.out.keep (Keeps.of_below (by rw [HN.out]; exact HB1.out))) htt).mono ?_
      rw [H0.out]
      rintro e w2 ⟨rfl, hb⟩
      have HB2 := Lib.hid (HB1.out.trans (hb.mono (by have := HB1.out.size; have := HN.out; omega)))
      clear hb
      go_wp2_with fail
      refine (entriesOf_q l _ w2 (H.out.keep (Keeps.of_below (by rw [HN.out]; exact HB2.out))) H0.out hw (HTab.out.keep (by rw [HN.out]; exact HB2.out))).mono ?_
      rintro e w3 ⟨Ae, ce, rfl, own3, hb⟩
      have HEl := Lib.hid (show (entK (headsL l) (headsL l).length).length = (headsL l).length from entK_len _ (Nat.le_refl _))
      have HEi := Lib.hid (show entIds (entK (headsL l) (headsL l).length) = idsL (headsL l) by rw [entK_ids _ (Nat.le_refl _), List.take_length])
      obtain ⟨m, hm⟩ : ∃ m, (headsL l).length = m := ⟨_, rfl⟩
      have hml : m ≤ 4000 := by rw [← hm]; have := heads_len l; omega
      rw [HEl.out, hm] at own3
      rw [HEl.out, hm]
      rw [hm] at HEl HEi
      obtain ⟨E, hE⟩ : ∃ E, entK (headsL l) m = E := ⟨_, rfl⟩
      rw [hE] at own3 HEl HEi
      have HO3 := Lib.hid own3
      have HM := Lib.hid hm
      have HB3 := Lib.hid (HB2.out.trans (hb.mono (by have := HB2.out.size; have := HN.out; omega)))
      obtain ⟨_, _, hve, hce, hmce, hAe⟩ := own_form own3
      cases hve
      have HAe := Lib.hid hAe
      unfold maxLen at hce
      clear hb own3 hm hE hAe
      go_wp2_with fail
      try go_frame
      go_loopw [35] (fun t35 wr => ∃ (k : Nat), k ≤ l.length ∧ t35 = .int .i64 k ∧ Hid (∀ j, j < k → ¬ HitAt l s.data.toList j) ∧ Hid (Below w3.heap.size w3 wr)) (fun t _ => l.length - (intOf t).toNat)
      case atStart => exact ⟨0, Nat.zero_le _, rfl, Lib.hid (fun j hj => absurd hj (by omega)), Below.refl _ _⟩
      case round =>
        obtain ⟨k, hk, rfl, HNo, HBr⟩ := hrel
        have HB := Lib.hid (HB3.out.trans (HBr.out.mono (by have := HB3.out.size; have := HN.out; omega)))
        have HOr := Lib.hid (own_belowK HO3.out HBr.out)
        by_cases hlt : k < l.length
        · obtain rfl := HA.out (by rintro rfl; simp at hlt)
          obtain ⟨x, hx⟩ : ∃ x, l[k]? = some x := ⟨_, List.getElem?_eq_getElem hlt⟩
          have hc1 := countH_le l k
          obtain ⟨p0, p1, p2, p3, p4, p5, q0, q1, q2, q3, q4⟩ := (HCell.out k x hx).keep (Keeps.of_below (by rw [HN.out]; exact HB.out))
          obtain ⟨A3, c3, b3, o3, k3, e3, _, _, _, _, _⟩ := (HKid.out k x hx).inv
          rw [e3] at p5
          have HX := Lib.hid hx
          obtain ⟨cnt, hcnt⟩ : ∃ c, countH l k = c := ⟨_, rfl⟩
          rw [hcnt, HM.out] at hc1
          have HCnt := Lib.hid hcnt
          have hck : ¬ cn = 0 := by omega
          have hck2 : ¬ cn = k := by omega
          have HPre := Lib.hid (NodesAt.pre (k := k) (H.out.keep (Keeps.of_below (by rw [HN.out]; exact HB.out.alloc (by have := HB.out.size; have := HN.out; omega) (.cells #[.int .i64 x.kind, .int .i64 x.level, .string x.text, .string x.dest, .string x.title, .slice A3 x.kids.length c3] 31)))) hk)
          have HB1r := Lib.hid (HBr.out.alloc HBr.out.size (.cells #[.int .i64 x.kind, .int .i64 x.level, .string x.text, .string x.dest, .string x.title, .slice A3 x.kids.length c3] 31))
          have HY1 := Lib.hid (CB.new wr #[.int .i64 x.kind, .int .i64 x.level, .string x.text, .string x.dest, .string x.title, .slice A3 x.kids.length c3] 31)
          obtain ⟨nb, hnb⟩ : ∃ nb, wr.heap.size = nb := ⟨_, rfl⟩
          rw [hnb] at HY1
          have HNb := Lib.hid hnb
          have HTr := Lib.hid (HTab.out.keep (show Below w.heap.size w (wr.alloc (.cells #[.int .i64 x.kind, .int .i64 x.level, .string x.text, .string x.dest, .string x.title, .slice A3 x.kids.length c3] 31)) by rw [HN.out]; exact HB.out.alloc (by have := HB.out.size; have := HN.out; omega) _))
          clear hx e3 hcnt hnb HOr HB
          go_wp2_with fail
          rw [HNb.out]
          refine (entriesOf_q (l.take k) _ _ HPre.out (docErr_take H0.out k) (Nat.le_trans (weight_pre l k) hw) HTr.out).mono ?_
          rintro e w4 ⟨Af, cf, rfl, _, hb4⟩
          have hEn : (entK (headsL (l.take k)) (headsL (l.take k)).length).length = cnt := by rw [entK_len _ (Nat.le_refl _)]; exact HCnt.out
          rw [hEn]
          have HBr4 := Lib.hid (HB1r.out.trans (hb4.mono HB1r.out.size))
          have HY4 := Lib.hid (HY1.out.below hb4)
          have y0 := HY4.out.c 0
          have y1 := HY4.out.c 1
          simp only [List.getElem?_toArray, List.getElem?_cons_zero, List.getElem?_cons_succ] at y0 y1
          have HB4 := Lib.hid (HB3.out.trans (HBr4.out.mono (by have := HB3.out.size; have := HN.out; omega)))
          have HOr4 := Lib.hid (own_belowK HO3.out HBr4.out)
          clear hEn hb4 HPre HTr HB1r HY1 p0 p1 p2 p3 p4 p5 q0 q1 q2 q3 q4
          by_cases hkx : x.kind = 1
          · have hcl := countH_lt HX.out hkx
            rw [HCnt.out, HM.out] at hcl
            obtain ⟨ge, rfl, _, _⟩ := HAe.out (by omega)
            obtain ⟨en, hen⟩ : ∃ en, E[cnt]? = some en := ⟨_, List.getElem?_eq_getElem (by rw [HEl.out]; exact hcl)⟩
            have r1 := (HOr4.out.cellAt (cnt * 3 + 1) (by omega)).trans (entsC_at E cnt en hen 1 (by omega))
            simp only [entC, List.getElem?_cons_zero, List.getElem?_cons_succ] at r1
            have HId := Lib.hid (show (idsL (headsL l))[cnt]? = some en.id.data.toList by rw [← HEi.out, entIds, List.getElem?_map, hen]; rfl)
            have HKx := Lib.hid hkx
            have t1 : (x.kind == 1) = true := by simp; omega
            have t1b : (x.kind != 1) = false := by simp; omega
            clear hen hkx
            by_cases hzs : en.id = s
            · have HHit := Lib.hid (show HitAt l s.data.toList k from ⟨x, HX.out, HKx.out, by rw [HCnt.out, HId.out, ← hzs]⟩)
              exact absurd HHit.out (HNone.out k)
            · have t2 := strB_ne hzs
              have t2b : (en.id.toList != s.toList) = true := by simp [bne, t2]
              have HNh := Lib.hid (show ¬ HitAt l s.data.toList k from fun ⟨n, _, _, h2⟩ => by
                rw [HCnt.out, HId.out] at h2
                exact hzs (Go.WideShapes.bytes_inj (Option.some.inj h2)))
              clear hzs
              go_wp2_with fail
              go_roundw
              case rel => exact ⟨k + 1, by omega, by go_num, Lib.hid (fun j hj => by
                rcases Nat.lt_succ_iff_lt_or_eq.1 hj with h1 | rfl
                · exact HNo.out j h1
                · exact HNh.out), HBr4⟩
              case measure => simp [intOf]; omega
          · have t1 : (x.kind == 1) = false := by simp; omega
            have t1b : (x.kind != 1) = true := by simp; omega
            have HNh := Lib.hid (show ¬ HitAt l s.data.toList k from fun ⟨n, hn, h2, _⟩ => by rw [HX.out] at hn; cases hn; exact hkx h2)
            clear hkx
            go_wp2_with fail
            go_roundw
            case rel => exact ⟨k + 1, by omega, by go_num, Lib.hid (fun j hj => by
              rcases Nat.lt_succ_iff_lt_or_eq.1 hj with h1 | rfl
              · exact HNo.out j h1
              · exact HNh.out), HBr4⟩
            case measure => simp [intOf]; omega
        · go_wp2_with fail
          go_ret
          exact ⟨rfl, HB.out⟩
    · rw [HN.out] at hb
      have HB1 := Lib.hid hb
      have HFi := Lib.hid hfi
      have HRx := Lib.hid hrx
      have HRe := Lib.hid hre
      have HT := Lib.hid hrn
      clear hfi hrx hre hrn
      clear hb
      go_wp2_with fail
      refine (docError_any l _ _ (H.out.keep (Keeps.of_below (by rw [HN.out]; exact HB1.out))) htt).mono ?_
      rw [H0.out]
      rintro e w2 ⟨rfl, hb⟩
      have HB12 := Lib.hid hb
      have HB2 := Lib.hid (HB1.out.trans (hb.mono (by have := HB1.out.size; have := HN.out; omega)))
      clear hb
      go_wp2_with fail
      refine (entriesOf_q l _ w2 (H.out.keep (Keeps.of_below (by rw [HN.out]; exact HB2.out))) H0.out hw (HTab.out.keep (by rw [HN.out]; exact HB2.out))).mono ?_
      rintro e w3 ⟨Ae, ce, rfl, own3, hb⟩
      have HEl := Lib.hid (show (entK (headsL l) (headsL l).length).length = (headsL l).length from entK_len _ (Nat.le_refl _))
      have HEi := Lib.hid (show entIds (entK (headsL l) (headsL l).length) = idsL (headsL l) by rw [entK_ids _ (Nat.le_refl _), List.take_length])
      obtain ⟨m, hm⟩ : ∃ m, (headsL l).length = m := ⟨_, rfl⟩
      have hml : m ≤ 4000 := by rw [← hm]; have := heads_len l; omega
      rw [HEl.out, hm] at own3
      rw [HEl.out, hm]
      rw [hm] at HEl HEi
      obtain ⟨E, hE⟩ : ∃ E, entK (headsL l) m = E := ⟨_, rfl⟩
      rw [hE] at own3 HEl HEi
      have HO3 := Lib.hid own3
      have HM := Lib.hid hm
      have HB3 := Lib.hid (HB2.out.trans (hb.mono (by have := HB2.out.size; have := HN.out; omega)))
      obtain ⟨_, _, hve, hce, hmce, hAe⟩ := own_form own3
      cases hve
      have HAe := Lib.hid hAe
      unfold maxLen at hce
      have HSz := Lib.hid (show w1.heap.size ≤ w3.heap.size by have := hb.size; have := HB12.out.size; omega)
      have HB1x := Lib.hid (fun (W : World) (h : Below w3.heap.size w3 W) => ((show Below w1.heap.size w1 w3 by exact (HB12.out.trans (hb.mono HB12.out.size))).trans (h.mono HSz.out) : Below w1.heap.size w1 W))
      clear hb own3 hm hE hAe HSz
      go_wp2_with fail
      try go_frame
      go_loopw [35] (fun t35 wr => ∃ (k : Nat), k ≤ l.length ∧ t35 = .int .i64 k ∧ Hid (∀ j, j < k → ¬ HitAt l s.data.toList j) ∧ Hid (Below w3.heap.size w3 wr)) (fun t _ => l.length - (intOf t).toNat)
      case atStart => exact ⟨0, Nat.zero_le _, rfl, Lib.hid (fun j hj => absurd hj (by omega)), Below.refl _ _⟩
      case round =>
        obtain ⟨k, hk, rfl, HNo, HBr⟩ := hrel
        have HB := Lib.hid (HB3.out.trans (HBr.out.mono (by have := HB3.out.size; have := HN.out; omega)))
        have HOr := Lib.hid (own_belowK HO3.out HBr.out)
        by_cases hlt : k < l.length
        · obtain rfl := HA.out (by rintro rfl; simp at hlt)
          obtain ⟨x, hx⟩ : ∃ x, l[k]? = some x := ⟨_, List.getElem?_eq_getElem hlt⟩
          have hc1 := countH_le l k
          obtain ⟨p0, p1, p2, p3, p4, p5, q0, q1, q2, q3, q4⟩ := (HCell.out k x hx).keep (Keeps.of_below (by rw [HN.out]; exact HB.out))
          obtain ⟨A3, c3, b3, o3, k3, e3, _, _, _, _, _⟩ := (HKid.out k x hx).inv
          rw [e3] at p5
          have HX := Lib.hid hx
          obtain ⟨cnt, hcnt⟩ : ∃ c, countH l k = c := ⟨_, rfl⟩
          rw [hcnt, HM.out] at hc1
          have HCnt := Lib.hid hcnt
          have hck : ¬ cn = 0 := by omega
          have hck2 : ¬ cn = k := by omega
          have HPre := Lib.hid (NodesAt.pre (k := k) (H.out.keep (Keeps.of_below (by rw [HN.out]; exact HB.out.alloc (by have := HB.out.size; have := HN.out; omega) (.cells #[.int .i64 x.kind, .int .i64 x.level, .string x.text, .string x.dest, .string x.title, .slice A3 x.kids.length c3] 31)))) hk)
          have HB1r := Lib.hid (HBr.out.alloc HBr.out.size (.cells #[.int .i64 x.kind, .int .i64 x.level, .string x.text, .string x.dest, .string x.title, .slice A3 x.kids.length c3] 31))
          have HY1 := Lib.hid (CB.new wr #[.int .i64 x.kind, .int .i64 x.level, .string x.text, .string x.dest, .string x.title, .slice A3 x.kids.length c3] 31)
          obtain ⟨nb, hnb⟩ : ∃ nb, wr.heap.size = nb := ⟨_, rfl⟩
          rw [hnb] at HY1
          have HNb := Lib.hid hnb
          have HTr := Lib.hid (HTab.out.keep (show Below w.heap.size w (wr.alloc (.cells #[.int .i64 x.kind, .int .i64 x.level, .string x.text, .string x.dest, .string x.title, .slice A3 x.kids.length c3] 31)) by rw [HN.out]; exact HB.out.alloc (by have := HB.out.size; have := HN.out; omega) _))
          clear hx e3 hcnt hnb HOr HB
          go_wp2_with fail
          rw [HNb.out]
          refine (entriesOf_q (l.take k) _ _ HPre.out (docErr_take H0.out k) (Nat.le_trans (weight_pre l k) hw) HTr.out).mono ?_
          rintro e w4 ⟨Af, cf, rfl, _, hb4⟩
          have hEn : (entK (headsL (l.take k)) (headsL (l.take k)).length).length = cnt := by rw [entK_len _ (Nat.le_refl _)]; exact HCnt.out
          rw [hEn]
          have HBr4 := Lib.hid (HB1r.out.trans (hb4.mono HB1r.out.size))
          have HY4 := Lib.hid (HY1.out.below hb4)
          have y0 := HY4.out.c 0
          have y1 := HY4.out.c 1
          simp only [List.getElem?_toArray, List.getElem?_cons_zero, List.getElem?_cons_succ] at y0 y1
          have HB4 := Lib.hid (HB3.out.trans (HBr4.out.mono (by have := HB3.out.size; have := HN.out; omega)))
          have HOr4 := Lib.hid (own_belowK HO3.out HBr4.out)
          clear hEn hb4 HPre HTr HB1r HY1 p0 p1 p2 p3 p4 p5 q0 q1 q2 q3 q4
          by_cases hkx : x.kind = 1
          · have hcl := countH_lt HX.out hkx
            rw [HCnt.out, HM.out] at hcl
            obtain ⟨ge, rfl, _, _⟩ := HAe.out (by omega)
            obtain ⟨en, hen⟩ : ∃ en, E[cnt]? = some en := ⟨_, List.getElem?_eq_getElem (by rw [HEl.out]; exact hcl)⟩
            have r1 := (HOr4.out.cellAt (cnt * 3 + 1) (by omega)).trans (entsC_at E cnt en hen 1 (by omega))
            simp only [entC, List.getElem?_cons_zero, List.getElem?_cons_succ] at r1
            have HId := Lib.hid (show (idsL (headsL l))[cnt]? = some en.id.data.toList by rw [← HEi.out, entIds, List.getElem?_map, hen]; rfl)
            have HKx := Lib.hid hkx
            have t1 : (x.kind == 1) = true := by simp; omega
            have t1b : (x.kind != 1) = false := by simp; omega
            clear hen hkx
            by_cases hzs : en.id = s
            · have HHit := Lib.hid (show HitAt l s.data.toList k from ⟨x, HX.out, HKx.out, by rw [HCnt.out, HId.out, ← hzs]⟩)
              have HFirst := Lib.hid (show FirstH l s.data.toList k from ⟨HHit.out, HNo.out⟩)
              obtain rfl : ri = k := HFi.out.unique HFirst.out
              obtain rfl : rx = x := Option.some.inj (HRx.out.symm.trans HX.out)
              have t2 : (en.id.toList == s.toList) = true := by rw [hzs]; simp
              have t2b : (en.id.toList != s.toList) = false := by rw [hzs]; simp
              clear hzs HNo
              go_wp2_with fail
              clear t2 t2b r1
              go_loopw [12] (fun t12 wr2 => ∃ (j q : Nat), ri < j ∧ j ≤ l.length ∧ t12 = .int .i64 j ∧ Hid (∀ i, ri < i → i < j → ¬ StopK l rx.level i) ∧ wr2 = w4.drewN q) (fun t _ => l.length - (intOf t).toNat)
              case atStart => exact ⟨ri + 1, 0, by omega, by omega, by go_num, Lib.hid (fun i h1 h2 => absurd h1 (by omega)), rfl⟩
              case round =>
                obtain ⟨j, q, hj1, hj2, rfl, HSt, rfl⟩ := hrel
                by_cases hjl : j < l.length
                · obtain ⟨y, hy⟩ : ∃ y, l[j]? = some y := ⟨_, List.getElem?_eq_getElem hjl⟩
                  obtain ⟨p0, p1, p2, p3, p4, p5, q0, q1, q2, q3, q4⟩ := (HCell.out j y hy).keep (Keeps.of_below (by rw [HN.out]; exact HB4.out))
                  have HYj := Lib.hid hy
                  clear hy q2 q3 q4 p2 p3 p4 p5
                  by_cases hy1 : y.kind = 1
                  · have t3 : (y.kind == 1) = true := by simp; omega
                    by_cases hy2 : y.level ≤ rx.level
                    · have t4 : decide (y.level ≤ rx.level) = true := by simp; omega
                      have HEnd := Lib.hid (show EndH l ri rx.level j from ⟨hj1, hj2, HSt.out, Or.inr ⟨y, HYj.out, hy1, hy2⟩⟩)
                      clear hy1 hy2 HSt
                      obtain rfl : rk = j := HRe.out.unique HEnd.out
                      go_wp2_with fail
                      go_quiet (fail)
                      go_wp2_with fail
                      have HMid := Lib.hid (NodesAt.mid hlc HCm.out hj1 hj2 (fun i n hi => (HCell.out i n hi).keep (Keeps.of_below (by rw [HN.out]; exact Below.drewN' HB4.out _))) (fun i n hi => (HKid.out i n hi).keep (Keeps.of_below (by rw [HN.out]; exact Below.drewN' HB4.out _))) : NodesAt (w4.drewN (q + nq)) _ _)
                      have HT4 := Lib.hid (HT.out.keep (Keeps.of_below (Below.drewN' (HB1x.out _ HBr4.out) (q + nq))))
                      have HB5 := Lib.hid (show Below N w (w4.drewN (q + nq)) from Below.drewN' HB4.out _)
                      go_wp2_with (go_at_call 12; go_loud (go_must (refine (sameDoc_any _ _ _ _ _ _ (Nat.le_refl _) HT4.out HMid.out).mono ?_); rw [same_refl]; rintro e w6 ⟨rfl, hb6⟩; have HB6 := Lib.hid (HB5.out.trans (hb6.mono (by have := HB5.out.size; have := HN.out; omega))); clear hb6))
                      go_ret
                      exact ⟨rfl, HB6.out⟩
                    · have t4 : decide (y.level ≤ rx.level) = false := by simp; omega
                      have HNs := Lib.hid (show ¬ StopK l rx.level j from fun ⟨n, hn, _, h2⟩ => by rw [HYj.out] at hn; cases hn; exact hy2 h2)
                      clear hy1 hy2
                      go_wp2_with fail
                      go_quiet (fail)
                      go_wp2_with fail
                      go_roundw
                      case rel => exact ⟨j + 1, q + nq, by omega, by omega, by go_num, Lib.hid (fun i h1 h2 => by
                        rcases Nat.lt_succ_iff_lt_or_eq.1 h2 with h3 | rfl
                        · exact HSt.out i h1 h3
                        · exact HNs.out), rfl⟩
                      case measure => simp [intOf]; omega
                  · have t3 : (y.kind == 1) = false := by simp; omega
                    have HNs := Lib.hid (show ¬ StopK l rx.level j from fun ⟨n, hn, h2, _⟩ => by rw [HYj.out] at hn; cases hn; exact hy1 h2)
                    clear hy1
                    go_wp2_with fail
                    go_quiet (fail)
                    go_wp2_with fail
                    go_roundw
                    case rel => exact ⟨j + 1, q + nq, by omega, by omega, by go_num, Lib.hid (fun i h1 h2 => by
                      rcases Nat.lt_succ_iff_lt_or_eq.1 h2 with h3 | rfl
                      · exact HSt.out i h1 h3
                      · exact HNs.out), rfl⟩
                    case measure => simp [intOf]; omega
                · have HEnd := Lib.hid (show EndH l ri rx.level j from ⟨hj1, hj2, HSt.out, Or.inl (by omega)⟩)
                  clear HSt
                  obtain rfl : rk = j := HRe.out.unique HEnd.out
                  go_wp2_with fail
                  go_quiet (fail)
                  go_wp2_with fail
                  have HMid := Lib.hid (NodesAt.mid hlc HCm.out hj1 hj2 (fun i n hi => (HCell.out i n hi).keep (Keeps.of_below (by rw [HN.out]; exact Below.drewN' HB4.out _))) (fun i n hi => (HKid.out i n hi).keep (Keeps.of_below (by rw [HN.out]; exact Below.drewN' HB4.out _))) : NodesAt (w4.drewN (q + nq)) _ _)
                  have HT4 := Lib.hid (HT.out.keep (Keeps.of_below (Below.drewN' (HB1x.out _ HBr4.out) (q + nq))))
                  have HB5 := Lib.hid (show Below N w (w4.drewN (q + nq)) from Below.drewN' HB4.out _)
                  go_wp2_with (go_at_call 12; go_loud (go_must (refine (sameDoc_any _ _ _ _ _ _ (Nat.le_refl _) HT4.out HMid.out).mono ?_); rw [same_refl]; rintro e w6 ⟨rfl, hb6⟩; have HB6 := Lib.hid (HB5.out.trans (hb6.mono (by have := HB5.out.size; have := HN.out; omega))); clear hb6))
                  go_ret
                  exact ⟨rfl, HB6.out⟩
            · have t2 := strB_ne hzs
              have t2b : (en.id.toList != s.toList) = true := by simp [bne, t2]
              have HNh := Lib.hid (show ¬ HitAt l s.data.toList k from fun ⟨n, _, _, h2⟩ => by
                rw [HCnt.out, HId.out] at h2
                exact hzs (Go.WideShapes.bytes_inj (Option.some.inj h2)))
              clear hzs
              go_wp2_with fail
              go_roundw
              case rel => exact ⟨k + 1, by omega, by go_num, Lib.hid (fun j hj => by
                rcases Nat.lt_succ_iff_lt_or_eq.1 hj with h1 | rfl
                · exact HNo.out j h1
                · exact HNh.out), HBr4⟩
              case measure => simp [intOf]; omega
          · have t1 : (x.kind == 1) = false := by simp; omega
            have t1b : (x.kind != 1) = true := by simp; omega
            have HNh := Lib.hid (show ¬ HitAt l s.data.toList k from fun ⟨n, hn, h2, _⟩ => by rw [HX.out] at hn; cases hn; exact hkx h2)
            clear hkx
            go_wp2_with fail
            go_roundw
            case rel => exact ⟨k + 1, by omega, by go_num, Lib.hid (fun j hj => by
              rcases Nat.lt_succ_iff_lt_or_eq.1 hj with h1 | rfl
              · exact HNo.out j h1
              · exact HNh.out), HBr4⟩
            case measure => simp [intOf]; omega
        · obtain ⟨n, hn, _⟩ := HFi.out.1
          exact absurd HFi.out.1 (HNo.out ri (by have := (List.getElem?_eq_some_iff.1 hn).1; omega))
  · have g1 : (docErr l != 0) = true := by simp [h0]
    have g2 : (docErr l == 0) = false := by simp [h0]
    have H0 := Lib.hid h0; clear h0
    obtain ⟨d, hd⟩ : ∃ d, docErr l = d := ⟨_, rfl⟩
    rw [hd] at g1 g2
    have HD := Lib.hid hd; clear hd
    have g3 : (d == d) = true := by simp
    go_enter Tryd.func4, Tryd.ntmps4
    go_wp2_with fail
    refine (HSe.out w H.out hw HTab.out).mono ?_
    rintro e w1 ⟨hb, ⟨_, rfl⟩ | ⟨hx, _⟩ | ⟨hx, _⟩⟩
    rotate_left
    · exact absurd hx H0.out
    · exact absurd hx H0.out
    rw [HN.out] at hb
    have HB1 := Lib.hid hb
    clear hb
    rw [HD.out]
    go_wp2_with fail
    refine (docError_any l _ _ (H.out.keep (Keeps.of_below (by rw [HN.out]; exact HB1.out))) htt).mono ?_
    rw [HD.out]
    rintro e w3 ⟨rfl, hb⟩
    have HB3 := Lib.hid (HB1.out.trans (hb.mono (by have := HB1.out.size; have := HN.out; omega)))
    clear hb
    go_wp2_with fail
    go_ret
    exact ⟨rfl, HB3.out⟩

end Go.Proofs.YtlganccpgchmeaaDoor
