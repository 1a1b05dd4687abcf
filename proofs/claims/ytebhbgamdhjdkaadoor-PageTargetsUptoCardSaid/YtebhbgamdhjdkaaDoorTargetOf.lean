/-
  mastref1.TargetOf.
-/
import Derived.Test.YtebhbgamdhjdkaaDoorTargetA
import Derived.RegionCalls
import Derived.Outline
import Derived.Deep.CutRange
namespace Go.Proofs.YtebhbgamdhjdkaaDoor
open Go.RowKit Go.Deep

theorem six_put {w : World} {n : Nat} {t : TypeId} {a0 a1 a2 a3 a4 a5 b0 b1 b2 b3 b4 b5 : Value} (h : CB w n t #[b0, b1, b2, b3, b4, b5]) :
    CB ((((((w.setCell ⟨n, 0, none⟩ a0).setCell ⟨n, 1, none⟩ a1).setCell ⟨n, 2, none⟩ a2).setCell ⟨n, 3, none⟩ a3).setCell ⟨n, 4, none⟩ a4).setCell ⟨n, 5, none⟩ a5) n t #[a0, a1, a2, a3, a4, a5] :=
  (((((h.put 0 a0).put 1 a1).put 2 a2).put 3 a3).put 4 a4).put 5 a5
theorem six_below {B n : Nat} {w0 w : World} {a0 a1 a2 a3 a4 a5 : Value} (h : Below B w0 w) (hn : B ≤ n) :
    Below B w0 ((((((w.setCell ⟨n, 0, none⟩ a0).setCell ⟨n, 1, none⟩ a1).setCell ⟨n, 2, none⟩ a2).setCell ⟨n, 3, none⟩ a3).setCell ⟨n, 4, none⟩ a4).setCell ⟨n, 5, none⟩ a5) :=
  (((((h.setCell (p := ⟨n, 0, none⟩) hn _).setCell (p := ⟨n, 1, none⟩) hn _).setCell (p := ⟨n, 2, none⟩) hn _).setCell (p := ⟨n, 3, none⟩) hn _).setCell (p := ⟨n, 4, none⟩) hn _).setCell (p := ⟨n, 5, none⟩) hn _

set_option maxRecDepth 100000 in
set_option maxHeartbeats 4000000 in
theorem targetOf_q (sv fv : Value) (f d : ByteArray) (l : List (ByteArray × Val)) (t : ByteArray × ByteArray × Bool) (w : World) (hm : MaxCell w) (hn : NamedsAt w fv l) (hd : d.size ≤ 2 ^ 62) (ht : targetO f l d = t) :
    Calls Tryd.prog 9 #[.agg #[sv, fv, .string f], .string d] w (TgtPost t w) := by
  have HM := Lib.hid hm; clear hm
  have HN := Lib.hid hn; clear hn
  have HT := Lib.hid ht; clear ht
  cases href : Lib.hasPrefix d.data.toList (⟨#[114, 101, 102, 58]⟩ : ByteArray).data.toList
  · have HRef := Lib.hid href
    cases hass : Lib.hasPrefix d.data.toList (⟨#[97, 115, 115, 101, 116, 58]⟩ : ByteArray).data.toList
    · have HAss := Lib.hid hass
      have HX := Lib.hid (HT.out.symm.trans (targetO_else href hass))
      clear href hass
      go_enter Tryd.func9, Tryd.ntmps9
      go_wp2_with (first
  | (go_at_call 23; refine (hasPrefix_q _ _ false _ HRef.out).mono ?_; rintro e wx ⟨rfl, rfl⟩)
  | (go_at_call 23; refine (hasPrefix_q _ _ false _ HAss.out).mono ?_; rintro e wx ⟨rfl, rfl⟩))
      go_ret3
      rw [HX.out]
      exact ⟨rfl, (Below.refl _ _).alloc (Nat.le_refl _) _⟩
    · have HAss := Lib.hid hass
      have HX := Lib.hid (HT.out.symm.trans (targetO_ass href hass))
      clear href hass
      go_enter Tryd.func9, Tryd.ntmps9
      go_wp2_with (first
  | (go_at_call 23; refine (hasPrefix_q _ _ false _ HRef.out).mono ?_; rintro e wx ⟨rfl, rfl⟩)
  | (go_at_call 23; refine (hasPrefix_q _ _ true _ HAss.out).mono ?_; rintro e wx ⟨rfl, rfl⟩))
      have hd6 : 6 ≤ d.size := pre_len (p := (⟨#[97, 115, 115, 101, 116, 58]⟩ : ByteArray)) HAss.out
      obtain ⟨W0, hW0⟩ : ∃ W0, w.alloc (.cells #[sv, fv, .string f] 25) = W0 := ⟨_, rfl⟩
      have HB0 := Lib.hid (show Below w.heap.size w W0 by rw [← hW0]; exact (Below.refl _ _).alloc (Nat.le_refl _) _)
      have HP0 := Lib.hid (show CB W0 w.heap.size 25 #[sv, fv, .string f] by rw [← hW0]; exact CB.new w _ _)
      rw [hW0]
      clear hW0
      have HN0 := Lib.hid (HN.out.keep (Keeps.of_below HB0.out))
      have hlt0 := HP0.out.lt
      have pc1 := HP0.out.c 1
      have psh := HP0.out.sh
      obtain ⟨v, hv⟩ : ∃ v, factO l ((⟨#[97, 115, 115, 101, 116, 58]⟩ : ByteArray) ++ d.extract 6 d.size) = v := ⟨_, rfl⟩
      have h0s : w.heap.size ≤ W0.heap.size := HB0.out.size
      go_cut [12] from 55 to 60 (fun s wx => ∃ (n : Nat) (A1 : Option Addr) (n1 c1 : Nat) (A2 : Option Addr) (n2 c2 : Nat), s = .pointer (some ⟨n, 0, none⟩) ∧ Hid (CB wx n 35 (valC v (.slice A1 n1 c1) (.slice A2 n2 c2))) ∧ Hid (Below w.heap.size w wx) ∧ Hid (ValIn w AnyB (valAgg v (.slice A1 n1 c1) (.slice A2 n2 c2)) v))
      case first =>
        go_region_with (go_at_call 29; refine (factOf_q0 l fv _ v w _ ?hk HN.out hv).mono ?_; (case hk => (first | exact (Keeps.of_below HB0.out).trans (Keeps.drew _) | exact (Keeps.of_below HB0.out).trans ((Keeps.alloc _ _).trans (Keeps.drew _)))); rintro e w1 ⟨A1, n1, c1, A2, n2, c2, rfl, hvi, hb1, hv0⟩; (first | (have HZ := Lib.hid (CB.below (w := (W0.alloc (.cells #[.int .i64 0, .bool false, .int .i64 0, .string ⟨#[]⟩, .slice none 0 0, .slice none 0 0] 35)).drew) (t := 35) (cs := #[.int .i64 0, .bool false, .int .i64 0, .string ⟨#[]⟩, .slice none 0 0, .slice none 0 0]) (CB.new W0 _ _) hb1); have HBx := Lib.hid (show Below w.heap.size w w1 from (HB0.out.alloc HB0.out.size (.cells #[.int .i64 0, .bool false, .int .i64 0, .string ⟨#[]⟩, .slice none 0 0, .slice none 0 0] 35)).drew.trans (hb1.mono (by show w.heap.size ≤ (W0.heap.push _).size; rw [Array.size_push]; omega))); have zc0 := HZ.out.c 0; have zf0 := HZ.out.f 0; have zc1 := HZ.out.c 1; have zf1 := HZ.out.f 1; have zc2 := HZ.out.c 2; have zf2 := HZ.out.f 2; have zc3 := HZ.out.c 3; have zf3 := HZ.out.f 3; have zc4 := HZ.out.c 4; have zf4 := HZ.out.f 4; have zc5 := HZ.out.c 5; have zf5 := HZ.out.f 5; have zsh := HZ.out.sh; unfold valAgg) | (have HBx := Lib.hid (show Below w.heap.size w w1 from HB0.out.drew.trans (hb1.mono h0s)); unfold valAgg)))
        all_goals
          (go_wp2_with fail
           go_meet
           first
             | (have h9 := HZ.out; clear h9; refine ⟨W0.heap.size, A1, n1, c1, A2, n2, c2, rfl, ?_, ?_, ?_⟩; rotate_left 2; go_must (exact Lib.hid hv0); go_must (exact Lib.hid (six_put HZ.out)); go_must (exact Lib.hid (six_below HBx.out h0s)))
             | exact ⟨w1.heap.size, A1, n1, c1, A2, n2, c2, rfl, Lib.hid (CB.new w1 _ _), Lib.hid (HBx.out.alloc HBx.out.size _), Lib.hid hv0⟩)
      case rest =>
        obtain ⟨n, A1, n1, c1, A2, n2, c2, rfl, HC1, HB2, HVw⟩ := hcut
        have HV1 := Lib.hid (HVw.out.keeps (Keeps.of_below HB2.out))
        have HVU := HV1.out
        unfold valAgg at HVU
        have qc0 := HC1.out.c 0
        have qc1 := HC1.out.c 1
        have qc2 := HC1.out.c 2
        have qc3 := HC1.out.c 3
        have qc4 := HC1.out.c 4
        have qc5 := HC1.out.c 5
        have qsh := HC1.out.sh
        simp only [valC] at qc0 qc1 qc2 qc3 qc4 qc5 qsh
        obtain ⟨u, hu⟩ : ∃ u, itemV v (⟨#[117, 114, 108]⟩ : ByteArray) = u := ⟨_, rfl⟩
        go_wp2_with fail
        refine (itemOf_q v _ (⟨#[117, 114, 108]⟩ : ByteArray) u wc HVU hu).mono ?_
        rintro e w2 ⟨A3, n3, c3, A4, n4, c4, rfl, hui, hb2⟩
        have HC2 := Lib.hid (HC1.out.below (hb2.mono (Nat.le_refl _)))
        have HB3 := Lib.hid (HB2.out.trans (hb2.mono HB2.out.size))
        clear hb2 hui qc0 qc1 qc2 qc3 qc4 qc5 qsh HVU
        unfold valAgg
        have hnl : n < w2.heap.size := HC2.out.lt
        have vc0 := HC2.out.c 0
        have vsh := HC2.out.sh
        simp only [valC] at vc0 vsh
        have hj := pre_join (p := (⟨#[97, 115, 115, 101, 116, 58]⟩ : ByteArray)) HAss.out
        rw [show ((⟨#[97, 115, 115, 101, 116, 58]⟩ : ByteArray)).size = 6 from rfl] at hj
        have hv2 : factO l d = v := by rw [← hv, hj]
        have HJ := Lib.hid hj
        by_cases hgood : v.kind = 6 ∧ u.kind = 3
        · have HX2 := Lib.hid (show t = (u.text, d, true) by
            rw [HX.out, assT_of (Or.inr hv2) hu, if_pos hgood])
          obtain ⟨k1, k2⟩ := hgood
          clear hv hu hv2 hj
          go_wp2_with fail
          go_quiet (fail)
          go_wp2_with fail
          go_ret3
          rw [HX2.out, HJ.out]
          exact ⟨rfl, Below.drewN' (HB3.out.alloc HB3.out.size _) _⟩
        · have HX2 := Lib.hid (show t = (⟨#[35]⟩, d, false) by
            rw [HX.out, assT_of (Or.inr hv2) hu, if_neg hgood])
          clear hv hu hv2 hj
          by_cases k1 : v.kind = 6
          · have k2 : ¬ u.kind = 3 := fun h => hgood ⟨k1, h⟩
            clear hgood
            go_wp2_with fail
            go_quiet (fail)
            go_wp2_with fail
            go_ret3
            rw [HX2.out, HJ.out]
            exact ⟨rfl, Below.drewN' (HB3.out.alloc HB3.out.size _) _⟩
          · clear hgood
            go_wp2_with fail
            go_quiet (fail)
            go_wp2_with fail
            go_ret3
            rw [HX2.out, HJ.out]
            exact ⟨rfl, Below.drewN' (HB3.out.alloc HB3.out.size _) _⟩
  · have HRef := Lib.hid href
    have hd4 : 4 ≤ d.size := pre_len href
    rcases idx_any (d.extract 4 d.size).data.toList 35 with hi | ⟨j, hi, hj⟩
    · have HI := Lib.hid hi
      have HX := Lib.hid (HT.out.symm.trans (targetO_ref href (cutP_no hi)))
      clear hi href
      go_enter Tryd.func9, Tryd.ntmps9
      go_wp2_with (first
        | (go_at_call 23; go_must (refine (hasPrefix_q _ _ true _ HRef.out).mono ?_); rintro e wx ⟨rfl, rfl⟩)
        | (go_at_call 24; go_must (refine (index_q _ _ _ HI.out).mono ?_); rintro e wx ⟨rfl, rfl⟩))
      obtain ⟨W0, hW0⟩ : ∃ W0, (w.alloc (.cells #[sv, fv, .string f] 25)) = W0 := ⟨_, rfl⟩
      have HB0 := Lib.hid (show Below w.heap.size w W0 by rw [← hW0]; exact (Below.refl _ _).alloc (Nat.le_refl _) _)
      have HP0 := Lib.hid (show CB W0 w.heap.size 25 #[sv, fv, .string f] by rw [← hW0]; exact CB.new w _ _)
      rw [hW0]
      clear hW0
      have HM0 := Lib.hid (HM.out.keep (Keeps.of_below HB0.out))
      obtain ⟨r1, hr1⟩ : ∃ r1, d.extract 4 d.size = r1 := ⟨_, rfl⟩
      obtain ⟨o, ho⟩ : ∃ o, resO f r1 = o := ⟨_, rfl⟩
      rw [hr1]
      have HX1 := Lib.hid (show t = refT l o (⟨#[]⟩ : ByteArray) by rw [HX.out, hr1, ho])
      have hol : o.2.length ≤ 200 := by rw [← ho]; exact resO_len f r1
      refine (resolved_q f r1 o W0 HM0.out ho).mono ?_
      rintro e w1 ⟨z, rfl, hz, hb1⟩
      obtain rfl : z = ⟨o.2.toArray⟩ := bytes_ext (by rw [hz])
      obtain ⟨z, hzz⟩ : ∃ z : ByteArray, (⟨o.2.toArray⟩ : ByteArray) = z := ⟨_, rfl⟩
      have hzs : z.size ≤ 200 := by rw [← hzz]; exact hol
      have HP1 := Lib.hid (HP0.out.below (hb1.mono (Nat.le_refl _)))
      have HB1 := Lib.hid (HB0.out.trans (hb1.mono HB0.out.size))
      have HN1 := Lib.hid (HN.out.keep (Keeps.of_below HB1.out))
      rw [hzz]
      clear hz hb1 hr1 ho HX
      have pc1 := HP1.out.c 1
      have pc2 := HP1.out.c 2
      have psh := HP1.out.sh
      obtain ⟨o1, o2⟩ := o
      simp only at hzz hol
      by_cases h0 : o1 = 0
      · subst h0
        obtain ⟨v, hv⟩ : ∃ v, (factO l (pageN z)) = v := ⟨_, rfl⟩
        go_wp2_with fail
        refine (factOf_q l fv (pageN z) v _ HN1.out hv).mono ?_
        rintro e w2 ⟨A1, n1, c1, A2, n2, c2, rfl, hvi, hb2⟩
        have HB2 := Lib.hid (HB1.out.trans (hb2.mono HB1.out.size))
        clear hvi hb2
        unfold valAgg
        have hfl : ∀ (x : Value) (W : World), Sem.run Tryd.prog (Instr.field 35 (.agg #[x, .bool v.flag, .int .i64 v.num, .string v.text, .slice A1 n1 c1, .slice A2 n2 c2]) 0) W = .ok x W := fun _ _ => rfl
        by_cases hk : v.kind = 6
        · have HX2 := Lib.hid (show t = (z ++ (⟨#[]⟩ : ByteArray), pageN z, true) by
            rw [HX1.out, refT, if_neg (fun h => h rfl), if_pos (by show (factO l (pageN ⟨o2.toArray⟩)).kind = 6; rw [hzz, hv]; exact hk)]
            simp only [hzz])
          clear hv hzz hol HX1
          go_wp2_with fail
          go_ret3
          rw [HX2.out]
          exact ⟨rfl, HB2.out⟩
        · have HX2 := Lib.hid (show t = (⟨#[35]⟩, pageN z, false) by
            rw [HX1.out, refT, if_neg (fun h => h rfl), if_neg (by show ¬ (factO l (pageN ⟨o2.toArray⟩)).kind = 6; rw [hzz, hv]; exact hk)]
            simp only [hzz])
          clear hv hzz hol HX1
          go_wp2_with fail
          go_ret3
          rw [HX2.out]
          exact ⟨rfl, HB2.out⟩
      · have HX2 := Lib.hid (show t = (⟨#[35]⟩, ⟨#[]⟩, false) by rw [HX1.out, refT, if_pos h0])
        clear hzz hol HX1
        go_wp2_with fail
        go_ret3
        rw [HX2.out]
        exact ⟨rfl, HB1.out⟩
    · have HI := Lib.hid hi
      have HX := Lib.hid (HT.out.symm.trans (targetO_ref href (cutP_at hi)))
      rw [size_toList] at hj
      clear hi href
      go_enter Tryd.func9, Tryd.ntmps9
      go_wp2_with (first
        | (go_at_call 23; go_must (refine (hasPrefix_q _ _ true _ HRef.out).mono ?_); rintro e wx ⟨rfl, rfl⟩)
        | (go_at_call 24; go_must (refine (index_q _ _ _ HI.out).mono ?_); rintro e wx ⟨rfl, rfl⟩))
      go_quiet (fail)
      go_wp2_with fail
      obtain ⟨W0, hW0⟩ : ∃ W0, (w.alloc (.cells #[sv, fv, .string f] 25)).drewN nq = W0 := ⟨_, rfl⟩
      have HB0 := Lib.hid (show Below w.heap.size w W0 by rw [← hW0]; exact Below.drewN' ((Below.refl _ _).alloc (Nat.le_refl _) _) _)
      have HP0 := Lib.hid (show CB W0 w.heap.size 25 #[sv, fv, .string f] by rw [← hW0]; exact CB.new w _ _)
      rw [hW0]
      clear hW0
      have HM0 := Lib.hid (HM.out.keep (Keeps.of_below HB0.out))
      obtain ⟨r1, hr1⟩ : ∃ r1, (d.extract 4 d.size).extract 0 j = r1 := ⟨_, rfl⟩
      obtain ⟨o, ho⟩ : ∃ o, resO f r1 = o := ⟨_, rfl⟩
      rw [hr1]
      have HX1 := Lib.hid (show t = refT l o ((d.extract 4 d.size).extract j (d.size - 4)) by rw [HX.out, hr1, ho]; rw [ByteArray.size_extract, Nat.min_self])
      have hol : o.2.length ≤ 200 := by rw [← ho]; exact resO_len f r1
      refine (resolved_q f r1 o W0 HM0.out ho).mono ?_
      rintro e w1 ⟨z, rfl, hz, hb1⟩
      obtain rfl : z = ⟨o.2.toArray⟩ := bytes_ext (by rw [hz])
      obtain ⟨z, hzz⟩ : ∃ z : ByteArray, (⟨o.2.toArray⟩ : ByteArray) = z := ⟨_, rfl⟩
      have hzs : z.size ≤ 200 := by rw [← hzz]; exact hol
      have HP1 := Lib.hid (HP0.out.below (hb1.mono (Nat.le_refl _)))
      have HB1 := Lib.hid (HB0.out.trans (hb1.mono HB0.out.size))
      have HN1 := Lib.hid (HN.out.keep (Keeps.of_below HB1.out))
      rw [hzz]
      clear hz hb1 hr1 ho HX
      have pc1 := HP1.out.c 1
      have pc2 := HP1.out.c 2
      have psh := HP1.out.sh
      obtain ⟨o1, o2⟩ := o
      simp only at hzz hol
      by_cases h0 : o1 = 0
      · subst h0
        obtain ⟨v, hv⟩ : ∃ v, (factO l (pageN z)) = v := ⟨_, rfl⟩
        go_wp2_with fail
        refine (factOf_q l fv (pageN z) v _ HN1.out hv).mono ?_
        rintro e w2 ⟨A1, n1, c1, A2, n2, c2, rfl, hvi, hb2⟩
        have HB2 := Lib.hid (HB1.out.trans (hb2.mono HB1.out.size))
        clear hvi hb2
        unfold valAgg
        have hfl : ∀ (x : Value) (W : World), Sem.run Tryd.prog (Instr.field 35 (.agg #[x, .bool v.flag, .int .i64 v.num, .string v.text, .slice A1 n1 c1, .slice A2 n2 c2]) 0) W = .ok x W := fun _ _ => rfl
        by_cases hk : v.kind = 6
        · have HX2 := Lib.hid (show t = (z ++ ((d.extract 4 d.size).extract j (d.size - 4)), pageN z, true) by
            rw [HX1.out, refT, if_neg (fun h => h rfl), if_pos (by show (factO l (pageN ⟨o2.toArray⟩)).kind = 6; rw [hzz, hv]; exact hk)]
            simp only [hzz])
          clear hv hzz hol HX1
          go_wp2_with fail
          go_ret3
          rw [HX2.out]
          exact ⟨rfl, HB2.out⟩
        · have HX2 := Lib.hid (show t = (⟨#[35]⟩, pageN z, false) by
            rw [HX1.out, refT, if_neg (fun h => h rfl), if_neg (by show ¬ (factO l (pageN ⟨o2.toArray⟩)).kind = 6; rw [hzz, hv]; exact hk)]
            simp only [hzz])
          clear hv hzz hol HX1
          go_wp2_with fail
          go_ret3
          rw [HX2.out]
          exact ⟨rfl, HB2.out⟩
      · have HX2 := Lib.hid (show t = (⟨#[35]⟩, ⟨#[]⟩, false) by rw [HX1.out, refT, if_pos h0])
        clear hzz hol HX1
        go_wp2_with fail
        go_ret3
        rw [HX2.out]
        exact ⟨rfl, HB1.out⟩

end Go.Proofs.YtebhbgamdhjdkaaDoor
