/-
  Faults of a site: ship.Faults.
-/
import Derived.Test.YtbhildmalcfhiaaGreatDoorFaNestP
import Derived.Test.YtbhildmalcfhiaaGreatDoorFaEnd
namespace Go.Proofs.YtbhildmalcfhiaaGreatDoor
open Go.RowKit Go.Deep

set_option maxRecDepth 100000 in
set_option maxHeartbeats 80000000 in
theorem tags_q (N jb : Nat) (pa : ByteArray) (T : List (TokR × Value)) (tv : Value) (w0 w : World) (h : JS N jb pa tv [] w0 w) (hT : ToksIn w0 tv T) (hL : T.length ≤ 20000) (hx : ∀ x ∈ T, x.1.text.size ≤ 1048576) (hva : ∀ x ∈ T, ∀ a ∈ x.1.atts, a.value.size ≤ maxLen) :
    Calls Tryz.prog 31 #[.pointer (some ⟨jb, 0, none⟩)] w fun e w' => e = .returned (.tuple #[]) ∧ JS N jb pa tv (tagEnd (tagTo (T.map (·.1)) T.length)) w0 w' := by
  obtain ⟨At, ct, bt, rfl, hlc, hct, hAt⟩ := hT.shape
  have HAt := Lib.hid hAt; clear hAt
  have HT := Lib.hid (fun wr (hb : Below N w0 wr) => hT.keep (Keeps.of_below (by rw [h.h0]; exact hb)))
  have HX := Lib.hid hx; have HVa := Lib.hid hva; clear hx hT hva
  have HJ := Lib.hid h
  obtain ⟨fv, hbx⟩ := h.box
  have b1 : w.cell? ⟨jb, 1, none⟩ = some (.slice At T.length ct) := hbx.c 1
  have bl := hbx.lt
  clear hbx h
  obtain ⟨mb, hmb⟩ : ∃ mb, w.heap.size = mb := ⟨_, rfl⟩
  have HMb := Lib.hid hmb
  have HM0 := Lib.hid (show BMap Tryz.prog 9 4 (w.alloc (.map #[] 0)) mb 0 (memF []) by rw [← hmb]; exact memF_nil w)
  have HJ0 := Lib.hid (HJ.out.alloc (.map #[] 0))
  have HNb := Lib.hid (show N ≤ mb by rw [← hmb]; exact HJ.out.size)
  clear hmb
  have hmm := @run_makeMap Tryz.prog
  go_enter Tryz.func31, Tryz.ntmps31
  go_wp2_with fail
  rw [HMb.out]
  go_loopw [2, 4, 21] (fun t2 t4 t21 wr => ∃ (k n : Nat) (la : Int) (ti : Bool) (ids : List (List UInt8)) (D : List FaultR), t2 = .int .i64 la ∧ t4 = .bool ti ∧ t21 = .int .i64 k ∧ k ≤ T.length ∧ n ≤ k ∧ 0 ≤ la ∧ la ≤ 6 ∧ D.length ≤ 5 * k ∧ Hid (tagTo (T.map (·.1)) k = ⟨la, ids, ti, D⟩) ∧ Hid (JS N jb pa (.slice At T.length ct) D w0 wr) ∧ Hid (BMap Tryz.prog 9 4 wr mb n (memF ids))) (fun _ _ t21 _ => T.length - (intOf t21).toNat)
  case atStart => exact ⟨0, 0, 0, false, [], [], rfl, rfl, rfl, Nat.zero_le _, Nat.zero_le _, by omega, by omega, Nat.zero_le _, rfl, HJ0, HM0⟩
  case round =>
    clear HM0 HJ0 HJ b1 bl
    obtain ⟨k, n, la, ti, ids, D, rfl, rfl, rfl, hk, hnk, hla0, hla6, hD, HS, HJ, HM⟩ := hrel
    obtain ⟨wo, rfl⟩ : ∃ wo : World, wo = wr := ⟨_, rfl⟩
    by_cases hlt : k < T.length
    · obtain rfl := HAt.out (by intro h; rw [h] at hlt; simp at hlt)
      obtain ⟨x, hx⟩ : ∃ x, T[k]? = some x := ⟨_, List.getElem?_eq_getElem hlt⟩
      have HMx := Lib.hid (map_at hx)
      have HSz := Lib.hid (HVa.out x (List.mem_of_getElem? hx))
      have HXA := Lib.hid (fun (wx : World) (hb : Below N w0 wx) => ((HT.out wx hb).cells (fun _ => rfl) hx).1)
      obtain ⟨hxa, hxc⟩ := (HT.out wo HJ.out.bel).cells (fun _ => rfl) hx
      clear hx
      obtain ⟨⟨kd, at0, nm, tx, atts⟩, av⟩ := x
      obtain ⟨Ax, cx, bx, hxv, _⟩ := hxa
      simp only at hxv HXA HMx HSz
      subst hxv
      have p0 := hxc 0 _ rfl
      have p1 := hxc 1 _ rfl
      have p2 := hxc 2 _ rfl
      have p3 := hxc 3 _ rfl
      have p4 := hxc 4 _ rfl
      simp only [Nat.add_zero] at p0
      clear hxc
      by_cases hkd : kd = 2
      · subst hkd
        go_upto_region 7 with fail
        obtain ⟨tb, htb⟩ : ∃ tb, wo.heap.size = tb := ⟨_, rfl⟩
        obtain ⟨wa, hwa⟩ : ∃ W, wo.alloc (.cells #[.int .i64 2, .int .i64 (at0 : Int), .string nm, .string tx, .slice Ax atts.length cx] 56) = W := ⟨_, rfl⟩
        have Hwa := Lib.hid (show TS N jb mb tb pa (.slice (some ⟨bt, 0, none⟩) T.length ct) #[.int .i64 2, .int .i64 (at0 : Int), .string nm, .string tx, .slice Ax atts.length cx] D n ids w0 wa by rw [← hwa, ← htb]; exact ⟨HJ.out.alloc _, HM.out.alloc _, CB.new _ _ _⟩)
        have hne : tb ≠ jb := by obtain ⟨fv, hb⟩ := HJ.out.box; have := hb.lt; omega
        rw [hwa]
        try rw [htb]
        clear hwa htb p0 p1 p2 p3 p4 HJ HM
        obtain ⟨va, hva⟩ : ∃ v, attrS altN atts = v := ⟨_, rfl⟩
        have Hva := Lib.hid hva; clear hva
        obtain ⟨ba, hba⟩ : ∃ v, (attrV altN atts).isSome = v := ⟨_, rfl⟩
        have Hba := Lib.hid hba; clear hba
        have x0 := Hwa.out.tok.c 0
        have x1 := Hwa.out.tok.c 1
        have x2 := Hwa.out.tok.c 2
        have x3 := Hwa.out.tok.c 3
        have x4 := Hwa.out.tok.c 4
        simp only [List.getElem?_toArray, List.getElem?_cons_zero, List.getElem?_cons_succ] at x0 x1 x2 x3 x4
        have xl := Hwa.out.tok.lt
        go_upto_region 8 with (go_at_call 49; go_must (refine (attr_q 2 at0 nm tx _ atts altN va ba _ (HXA.out _ Hwa.out.js.bel) Hva.out Hba.out).mono ?_); rintro e wb ⟨rfl, hb⟩; have Hwb := Lib.hid (Hwa.out.below hb); clear hb)
        clear x0 x1 x2 x3 x4 xl
        have x0 := Hwb.out.tok.c 0
        have x1 := Hwb.out.tok.c 1
        have x2 := Hwb.out.tok.c 2
        have x3 := Hwb.out.tok.c 3
        have x4 := Hwb.out.tok.c 4
        simp only [List.getElem?_toArray, List.getElem?_cons_zero, List.getElem?_cons_succ] at x0 x1 x2 x3 x4
        have xl := Hwb.out.tok.lt
        obtain ⟨bA, hbA⟩ : ∃ v, (decide (nm = imgN) && !ba) = v := ⟨_, rfl⟩
        have HbA := Lib.hid hbA; clear hbA
        go_cut [40] from 22 to 160 (fun s40 wx => s40 = .bool bA ∧ Hid (TS N jb mb tb pa (.slice (some ⟨bt, 0, none⟩) T.length ct) #[.int .i64 2, .int .i64 (at0 : Int), .string nm, .string tx, .slice Ax atts.length cx] D n ids w0 wx))
        case first =>
          as_aux_lemma =>
            by_cases hn : nm = imgN
            · have z : (nm.toList == [105, 109, 103]) = true := nm_eq' hn
              have HV := Lib.hid (show bA = !ba by rw [← HbA.out]; simp [hn])
              clear hn
              cases ba with
              | false =>
                go_wp2_with fail
                go_meet
                exact ⟨by rw [HV.out]; rfl, Hwb⟩
              | true =>
                go_wp2_with fail
                go_meet
                exact ⟨by rw [HV.out]; rfl, Hwb⟩
            · have z : (nm.toList == [105, 109, 103]) = false := nm_ne' hn
              have HV := Lib.hid (show bA = false by rw [← HbA.out]; simp [hn])
              clear hn
              go_wp2_with fail
              go_meet
              exact ⟨by rw [HV.out], Hwb⟩
        case rest =>
          obtain ⟨rfl, HA⟩ := hcut
          obtain ⟨w1, rfl⟩ : ∃ W : World, W = wc := ⟨_, rfl⟩
          clear x0 x1 x2 x3 x4 xl
          go_upto_if 40 with fail
          have x0 := HA.out.tok.c 0
          have x1 := HA.out.tok.c 1
          have x2 := HA.out.tok.c 2
          have x3 := HA.out.tok.c 3
          have x4 := HA.out.tok.c 4
          simp only [List.getElem?_toArray, List.getElem?_cons_zero, List.getElem?_cons_succ] at x0 x1 x2 x3 x4
          have xl := HA.out.tok.lt
          obtain ⟨D1, hD1⟩ : ∃ v, D ++ oAlt (⟨2, at0, nm, tx, atts⟩ : TokR) = v := ⟨_, rfl⟩
          have HD1 := Lib.hid hD1; clear hD1
          have HO1 := Lib.hid (show D1 = D ++ bif bA then [⟨at0, 1⟩] else [] by rw [← HD1.out]; exact congrArg (D ++ ·) (oAlt_b (t := (⟨2, at0, nm, tx, atts⟩ : TokR)) (by have h9 := HbA.out; rw [← Hba.out] at h9; exact h9)))
          have hD1 : D1.length ≤ D.length + 1 := by rw [HO1.out]; cases bA <;> simp
          go_cut [] from 22 to 160 (fun wx => Hid (TS N jb mb tb pa (.slice (some ⟨bt, 0, none⟩) T.length ct) #[.int .i64 2, .int .i64 (at0 : Int), .string nm, .string tx, .slice Ax atts.length cx] D1 n ids w0 wx))
          case first =>
            as_aux_lemma =>
              cases bA with
              | true =>
                go_wp2_with (go_at_call 58; go_must (refine (add_q N jb pa _ D at0 _ 1 w0 _ HA.out.js rfl (by omega)).mono ?_); rintro e wd ⟨rfl, hj, hg⟩; have Hwd := Lib.hid (HA.out.jp hj hg hne); clear hj hg)
                go_meet
                rw [HO1.out]; exact Hwd
              | false =>
                go_wp2_with fail
                go_meet
                rw [HO1.out, cond_false, List.append_nil]; exact HA
          case rest =>
            obtain ⟨w2, rfl⟩ : ∃ W : World, W = wc := ⟨_, rfl⟩
            have HB := hcut
            clear hcut HA
            clear x0 x1 x2 x3 x4 xl
            go_upto_region 10 with fail
            have x0 := HB.out.tok.c 0
            have x1 := HB.out.tok.c 1
            have x2 := HB.out.tok.c 2
            have x3 := HB.out.tok.c 3
            have x4 := HB.out.tok.c 4
            simp only [List.getElem?_toArray, List.getElem?_cons_zero, List.getElem?_cons_succ] at x0 x1 x2 x3 x4
            have xl := HB.out.tok.lt
            obtain ⟨bH, hbH⟩ : ∃ v, headB nm = v := ⟨_, rfl⟩
            have HbH := Lib.hid hbH; clear hbH
            go_cut [66] from 22 to 160 (fun s66 wx => s66 = .bool bH ∧ Hid (TS N jb mb tb pa (.slice (some ⟨bt, 0, none⟩) T.length ct) #[.int .i64 2, .int .i64 (at0 : Int), .string nm, .string tx, .slice Ax atts.length cx] D1 n ids w0 wx))
            case first =>
              as_aux_lemma =>
                by_cases hz : nm.size = 2
                · have z0 : ((nm.size : Int) == 2) = true := by rw [beq_iff_eq]; omega
                  have q0 : (0 : Int) < (nm.size : Int) := by omega
                  have q1 : (1 : Int) < (nm.size : Int) := by omega
                  have g0 : 0 < nm.size := by omega
                  have g1 : 1 < nm.size := by omega
                  obtain ⟨n0, hn0⟩ : ∃ v, nAt nm 0 = v := ⟨_, rfl⟩
                  obtain ⟨n1, hn1⟩ : ∃ v, nAt nm 1 = v := ⟨_, rfl⟩
                  have e0 : ((nm[0]'g0).toNat : Int) = n0 := by rw [bAt_idx g0]; exact hn0
                  have e1 : ((nm[1]'g1).toNat : Int) = n1 := by rw [bAt_idx g1]; exact hn1
                  by_cases k0 : n0 = 104
                  · have z1 : (n0 == 104) = true := beq_iff_eq.2 k0
                    by_cases k1 : 49 ≤ n1
                    · by_cases k2 : n1 ≤ 54
                      · have HV := Lib.hid (show bH = true by rw [← HbH.out, headB, hn0, hn1, k0]; simp [hz, k1, k2])
                        clear hn0 hn1 k0 hz
                        go_wp2_with fail
                        go_meet
                        exact ⟨by rw [HV.out], HB⟩
                      · have HV := Lib.hid (show bH = false by rw [← HbH.out, headB, hn0, hn1]; simp [k2])
                        clear hn0 hn1 k0 hz
                        go_wp2_with fail
                        go_meet
                        exact ⟨by rw [HV.out], HB⟩
                    · have HV := Lib.hid (show bH = false by rw [← HbH.out, headB, hn0, hn1]; simp [k1])
                      clear hn0 hn1 k0 hz
                      go_wp2_with fail
                      go_meet
                      exact ⟨by rw [HV.out], HB⟩
                  · have z1 : (n0 == 104) = false := beq_eq_false_iff_ne.2 k0
                    have HV := Lib.hid (show bH = false by rw [← HbH.out, headB, hn0, z1]; simp)
                    clear hn0 hn1 k0 hz
                    go_wp2_with fail
                    go_meet
                    exact ⟨by rw [HV.out], HB⟩
                · have z0 : ((nm.size : Int) == 2) = false := beq_eq_false_iff_ne.2 (by omega)
                  have HV := Lib.hid (show bH = false by rw [← HbH.out, headB]; simp [hz])
                  clear hz
                  go_wp2_with fail
                  go_meet
                  exact ⟨by rw [HV.out], HB⟩
            case rest =>
              obtain ⟨rfl, HC⟩ := hcut
              obtain ⟨w3, rfl⟩ : ∃ W : World, W = wc := ⟨_, rfl⟩
              clear x0 x1 x2 x3 x4 xl
              clear HB
              go_upto_if 66 with fail
              have x0 := HC.out.tok.c 0
              have x1 := HC.out.tok.c 1
              have x2 := HC.out.tok.c 2
              have x3 := HC.out.tok.c 3
              have x4 := HC.out.tok.c 4
              simp only [List.getElem?_toArray, List.getElem?_cons_zero, List.getElem?_cons_succ] at x0 x1 x2 x3 x4
              have xl := HC.out.tok.lt
              obtain ⟨D2, hD2⟩ : ∃ v, D1 ++ oHead la (⟨2, at0, nm, tx, atts⟩ : TokR) = v := ⟨_, rfl⟩
              have HD2 := Lib.hid hD2; clear hD2
              obtain ⟨la2, hla2⟩ : ∃ v, nextL la (⟨2, at0, nm, tx, atts⟩ : TokR) = v := ⟨_, rfl⟩
              have Hla2 := Lib.hid hla2; clear hla2
              go_cut [2] from 22 to 160 (fun s2 wx => s2 = .int .i64 la2 ∧ 0 ≤ la2 ∧ la2 ≤ 6 ∧ D2.length ≤ D1.length + 1 ∧ Hid (TS N jb mb tb pa (.slice (some ⟨bt, 0, none⟩) T.length ct) #[.int .i64 2, .int .i64 (at0 : Int), .string nm, .string tx, .slice Ax atts.length cx] D2 n ids w0 wx))
              case first =>
                as_aux_lemma =>
                  cases bH with
                  | false =>
                    have e1 : la2 = la := by rw [← Hla2.out, nextL, if_neg (by rw [HbH.out]; simp)]
                    have e2 : D2 = D1 := by rw [← HD2.out, oHead, if_neg (by rw [HbH.out]; simp), List.append_nil]
                    subst e1 e2
                    go_wp2_with fail
                    go_meet
                    exact ⟨rfl, hla0, hla6, by omega, HC⟩
                  | true =>
                    obtain ⟨c, hc1, hc2, hc3, hc0, hc4⟩ := head_form HbH.out
                    have e1 : nAt nm 1 - 48 = la2 := by rw [← Hla2.out, nextL, if_pos HbH.out]
                    have hv1 : 1 ≤ la2 := by omega
                    have hv6 : la2 ≤ 6 := by omega
                    have HAt2 := Lib.hid (show Lib.atoi (nm.extract 1 nm.size).data.toList = some la2 by rw [hc4, ← e1, ← hc1]; exact atoi_one c (by omega) (by omega))
                    have HZs := Lib.hid (show (nm.extract 1 nm.size).size ≤ 18 by rw [← size_toList, hc4]; simp)
                    have q1 : (1 : Int) ≤ (nm.size : Int) := by omega
                    clear hc0
                    have HE1 := Lib.hid e1
                    clear hc4 hc1 hc2 hc3 e1
                    have hw1 : IntKind.i64.wrap (la + 1) = la + 1 := wrap_small (by omega) (by omega)
                    by_cases hgt : la + 1 < la2
                    · have e2 : D2 = D1 ++ [⟨at0, 2⟩] := by rw [← HD2.out, oHead, if_pos ⟨HbH.out, by have := HE1.out; simp only; omega⟩]
                      go_wp2_with (first
                        | (go_at_call 59; go_must (refine (atoi_q _ la2 _ HZs.out HAt2.out).mono ?_); rintro e we ⟨rfl, hbe⟩; have Hwe := Lib.hid (HC.out.below hbe); clear hbe; have y0 := Hwe.out.tok.c 0; have y1 := Hwe.out.tok.c 1; have y2 := Hwe.out.tok.c 2; simp only [List.getElem?_toArray, List.getElem?_cons_zero, List.getElem?_cons_succ] at y0 y1 y2; have yl := Hwe.out.tok.lt)
                        | (go_at_call 58; go_must (refine (add_q N jb pa _ D1 at0 _ 2 w0 _ Hwe.out.js rfl (by omega)).mono ?_); rintro e wf ⟨rfl, hj, hg⟩; have Hwf := Lib.hid (Hwe.out.jp hj hg hne); clear hj hg))
                      go_meet
                      exact ⟨rfl, by omega, hv6, by rw [e2]; simp, by rw [e2]; exact Hwf⟩
                    · have e2 : D2 = D1 := by rw [← HD2.out, oHead, if_neg (fun e => hgt (by have := e.2; have := HE1.out; simp only at *; omega)), List.append_nil]
                      go_wp2_with (go_at_call 59; go_must (refine (atoi_q _ la2 _ HZs.out HAt2.out).mono ?_); rintro e we ⟨rfl, hbe⟩; have Hwe := Lib.hid (HC.out.below hbe); clear hbe; have y0 := Hwe.out.tok.c 0; have y1 := Hwe.out.tok.c 1; have y2 := Hwe.out.tok.c 2; simp only [List.getElem?_toArray, List.getElem?_cons_zero, List.getElem?_cons_succ] at y0 y1 y2; have yl := Hwe.out.tok.lt)
                      go_meet
                      exact ⟨rfl, by omega, hv6, by rw [e2]; omega, by rw [e2]; exact Hwe⟩
              case rest =>
                obtain ⟨rfl, hl0, hl6, hD2, HE⟩ := hcut
                obtain ⟨w4, rfl⟩ : ∃ W : World, W = wc := ⟨_, rfl⟩
                clear x0 x1 x2 x3 x4 xl
                clear HC
                obtain ⟨vv, hvv⟩ : ∃ v, attrS idN atts = v := ⟨_, rfl⟩
                have Hvv := Lib.hid hvv; clear hvv
                obtain ⟨bb, hbb⟩ : ∃ v, (attrV idN atts).isSome = v := ⟨_, rfl⟩
                have Hbb := Lib.hid hbb; clear hbb
                have x0 := HE.out.tok.c 0
                have x1 := HE.out.tok.c 1
                have x2 := HE.out.tok.c 2
                have x3 := HE.out.tok.c 3
                have x4 := HE.out.tok.c 4
                simp only [List.getElem?_toArray, List.getElem?_cons_zero, List.getElem?_cons_succ] at x0 x1 x2 x3 x4
                have xl := HE.out.tok.lt
                go_upto_region 16 with (go_at_call 49; go_must (refine (attr_q 2 at0 nm tx _ atts idN vv bb _ (HXA.out _ HE.out.js.bel) Hvv.out Hbb.out).mono ?_); rintro e wg ⟨rfl, hb⟩; have Hwg := Lib.hid (HE.out.below hb); clear hb)
                clear x0 x1 x2 x3 x4 xl
                have x0 := Hwg.out.tok.c 0
                have x1 := Hwg.out.tok.c 1
                have x2 := Hwg.out.tok.c 2
                have x3 := Hwg.out.tok.c 3
                have x4 := Hwg.out.tok.c 4
                simp only [List.getElem?_toArray, List.getElem?_cons_zero, List.getElem?_cons_succ] at x0 x1 x2 x3 x4
                have xl := Hwg.out.tok.lt
                obtain ⟨D3, hD3⟩ : ∃ v, D2 ++ oId ids (⟨2, at0, nm, tx, atts⟩ : TokR) = v := ⟨_, rfl⟩
                have HD3 := Lib.hid hD3; clear hD3
                obtain ⟨ids3, hids3⟩ : ∃ v, nextI ids (⟨2, at0, nm, tx, atts⟩ : TokR) = v := ⟨_, rfl⟩
                have Hids3 := Lib.hid hids3; clear hids3
                obtain ⟨ne, hne0⟩ : ∃ b, decide (vv.data.toList ≠ []) = b := ⟨_, rfl⟩
                have HNe := Lib.hid hne0; clear hne0
                go_cut [89] from 22 to 160 (fun s89 wx => s89 = .bool ne ∧ Hid (TS N jb mb tb pa (.slice (some ⟨bt, 0, none⟩) T.length ct) #[.int .i64 2, .int .i64 (at0 : Int), .string nm, .string tx, .slice Ax atts.length cx] D2 n ids w0 wx))
                case first =>
                  as_aux_lemma =>
                    by_cases hv : vv.data.toList = []
                    · have r1 : (vv.toList == []) = true := by rw [Go.ByteArray.toList_eq]; exact beq_iff_eq.2 hv
                      have r2 : vv.toList.isEmpty = true := by rw [Go.ByteArray.toList_eq, hv]; rfl
                      have r3 : vv.toList = [] := by rw [Go.ByteArray.toList_eq]; exact hv
                      have HV := Lib.hid (show ne = false by rw [← HNe.out]; simp [hv])
                      clear hv
                      go_wp2_with fail
                      go_meet
                      exact ⟨by rw [HV.out], Hwg⟩
                    · have r1 : (vv.toList == []) = false := by rw [Go.ByteArray.toList_eq]; exact beq_eq_false_iff_ne.2 hv
                      have r2 : vv.toList.isEmpty = false := by rw [Go.ByteArray.toList_eq]; simpa using hv
                      have r3 : ¬ vv.toList = [] := by rw [Go.ByteArray.toList_eq]; exact hv
                      have HV := Lib.hid (show ne = true by rw [← HNe.out]; simp [hv])
                      clear hv
                      go_wp2_with fail
                      go_meet
                      exact ⟨by rw [HV.out], Hwg⟩
                case rest =>
                  obtain ⟨rfl, HE5⟩ := hcut
                  obtain ⟨w45, rfl⟩ : ∃ W : World, W = wc := ⟨_, rfl⟩
                  clear x0 x1 x2 x3 x4 xl
                  clear Hwg HE
                  have Hwg := HE5
                  clear HE5
                  go_upto_if 89 with fail
                  have x0 := Hwg.out.tok.c 0
                  have x1 := Hwg.out.tok.c 1
                  have x2 := Hwg.out.tok.c 2
                  have x3 := Hwg.out.tok.c 3
                  have x4 := Hwg.out.tok.c 4
                  simp only [List.getElem?_toArray, List.getElem?_cons_zero, List.getElem?_cons_succ] at x0 x1 x2 x3 x4
                  have xl := Hwg.out.tok.lt
                  go_cut [] from 22 to 160 (fun wx => ∃ n3, n3 ≤ n + 1 ∧ D3.length ≤ D2.length + 1 ∧ Hid (TS N jb mb tb pa (.slice (some ⟨bt, 0, none⟩) T.length ct) #[.int .i64 2, .int .i64 (at0 : Int), .string nm, .string tx, .slice Ax atts.length cx] D3 n3 ids3 w0 wx))
                  case first =>
                    as_aux_lemma =>
                      cases ne with
                      | false =>
                        have hv : vv.data.toList = [] := by simpa using HNe.out
                        have e1 : D3 = D2 := by rw [← HD3.out, oId, if_neg (fun e => e.1 (by rw [idB, Hvv.out]; exact hv)), List.append_nil]
                        have e2 : ids3 = ids := by rw [← Hids3.out, nextI, if_neg (fun e => e (by rw [idB, Hvv.out]; exact hv))]
                        subst e1 e2
                        clear hv
                        go_wp2_with fail
                        go_meet
                        exact ⟨n, by omega, by omega, Hwg⟩
                      | true =>
                        have hv : vv.data.toList ≠ [] := by simpa using HNe.out
                        have hid : idB (⟨2, at0, nm, tx, atts⟩ : TokR) = vv.data.toList := by rw [idB, Hvv.out]
                        have e2 : ids3 = ids ++ [vv.data.toList] := by rw [← Hids3.out, nextI, if_pos (by rw [hid]; exact hv), hid]
                        have hvs : vv.size ≤ maxLen := by rw [← Hvv.out]; exact attrS_size HSz.out
                        have HMp := Lib.hid (memF_put ids vv.data.toList)
                        obtain ⟨bi, hbi⟩ : ∃ b, decide (vv.data.toList ∈ ids) = b := ⟨_, rfl⟩
                        have HRun := Lib.hid (fun (W : World) (hW : BMap Tryz.prog 9 4 W mb n (memF ids)) => (by
                          have := bmap_look hW Tryz.underlying9 Tryz.underlying4 Tryz.underlying77 (s := vv) hvs (zero_bool W)
                          rw [memF_get, hbi] at this
                          exact this : (Instr.lookup 77 (.map (some mb)) (.string vv) false).run Tryz.prog W = .ok (.bool bi) W))
                        cases bi with
                        | true =>
                          have e1 : D3 = D2 ++ [⟨at0, 3⟩] := by rw [← HD3.out, oId, if_pos ⟨by rw [hid]; exact hv, by rw [hid]; exact of_decide_eq_true hbi⟩]
                          clear hbi hv hid
                          go_wp2_with (first
                            | (at_lookup; go_must (refine wpList_lookR rfl _ _ 77 false rfl vv _ rfl rfl (HRun.out _ Hwg.out.map) ?_))
                            | (go_at_call 58; go_must (refine (add_q N jb pa _ D2 at0 _ 3 w0 _ Hwg.out.js rfl (by omega)).mono ?_); rintro e wh ⟨rfl, hj, hg⟩; have Hwh := Lib.hid (Hwg.out.jp hj hg hne); clear hj hg)
                            | (at_mapUpdate; go_must (refine wpList_storeR rfl _ _ _ 77 rfl Tryz.underlying9 Tryz.underlying77 Hwh.out.map (by unfold maxLen; omega) rfl vv hvs _ true rfl rfl (plainElem_bool Tryz.underlying4 true) ?_); intro wi hmi hti; have Hwi := Lib.hid (Hwh.out.turned hmi hti HNb); clear hmi hti))
                          go_meet
                          exact ⟨n + 1, by omega, by rw [e1]; simp, by rw [e1, e2]; exact Hwi⟩
                        | false =>
                          have e1 : D3 = D2 := by rw [← HD3.out, oId, if_neg (fun e => of_decide_eq_false hbi (by have := e.2; rw [hid] at this; exact this)), List.append_nil]
                          clear hbi hv hid
                          go_wp2_with (first
                            | (at_lookup; go_must (refine wpList_lookR rfl _ _ 77 false rfl vv _ rfl rfl (HRun.out _ Hwg.out.map) ?_))
                            | (at_mapUpdate; go_must (refine wpList_storeR rfl _ _ _ 77 rfl Tryz.underlying9 Tryz.underlying77 Hwg.out.map (by unfold maxLen; omega) rfl vv hvs _ true rfl rfl (plainElem_bool Tryz.underlying4 true) ?_); intro wi hmi hti; have Hwi := Lib.hid (Hwg.out.turned hmi hti HNb); clear hmi hti))
                          go_meet
                          exact ⟨n + 1, by omega, by rw [e1]; omega, by rw [e1, e2]; exact Hwi⟩
                  case rest =>
                    obtain ⟨n3, hn3, hD3, HF⟩ := hcut
                    obtain ⟨w5, rfl⟩ : ∃ W : World, W = wc := ⟨_, rfl⟩
                    clear x0 x1 x2 x3 x4 xl
                    clear Hwg
                    go_upto_region 20 with fail
                    have x0 := HF.out.tok.c 0
                    have x1 := HF.out.tok.c 1
                    have x2 := HF.out.tok.c 2
                    have x3 := HF.out.tok.c 3
                    have x4 := HF.out.tok.c 4
                    simp only [List.getElem?_toArray, List.getElem?_cons_zero, List.getElem?_cons_succ] at x0 x1 x2 x3 x4
                    have xl := HF.out.tok.lt
                    obtain ⟨bT, hbT⟩ : ∃ v, (decide (nm = titleN) && !ti) = v := ⟨_, rfl⟩
                    have HbT := Lib.hid hbT; clear hbT
                    go_cut [105] from 22 to 160 (fun s105 wx => s105 = .bool bT ∧ Hid (TS N jb mb tb pa (.slice (some ⟨bt, 0, none⟩) T.length ct) #[.int .i64 2, .int .i64 (at0 : Int), .string nm, .string tx, .slice Ax atts.length cx] D3 n3 ids3 w0 wx))
                    case first =>
                      as_aux_lemma =>
                        by_cases hn : nm = titleN
                        · have z : (nm.toList == [116, 105, 116, 108, 101]) = true := nm_eq' hn
                          have HV := Lib.hid (show bT = !ti by rw [← HbT.out]; simp [hn])
                          clear hn
                          cases ti with
                          | false =>
                            go_wp2_with fail
                            go_meet
                            exact ⟨by rw [HV.out]; rfl, HF⟩
                          | true =>
                            go_wp2_with fail
                            go_meet
                            exact ⟨by rw [HV.out]; rfl, HF⟩
                        · have z : (nm.toList == [116, 105, 116, 108, 101]) = false := nm_ne' hn
                          have HV := Lib.hid (show bT = false by rw [← HbT.out]; simp [hn])
                          clear hn
                          go_wp2_with fail
                          go_meet
                          exact ⟨by rw [HV.out], HF⟩
                    case rest =>
                      obtain ⟨rfl, HG⟩ := hcut
                      obtain ⟨w6, rfl⟩ : ∃ W : World, W = wc := ⟨_, rfl⟩
                      clear x0 x1 x2 x3 x4 xl
                      clear HF
                      go_upto_if 105 with fail
                      have x0 := HG.out.tok.c 0
                      have x1 := HG.out.tok.c 1
                      have x2 := HG.out.tok.c 2
                      have x3 := HG.out.tok.c 3
                      have x4 := HG.out.tok.c 4
                      simp only [List.getElem?_toArray, List.getElem?_cons_zero, List.getElem?_cons_succ] at x0 x1 x2 x3 x4
                      have xl := HG.out.tok.lt
                      obtain ⟨D4, hD4⟩ : ∃ v, D3 ++ oTitle ti (T.map (·.1)) k (⟨2, at0, nm, tx, atts⟩ : TokR) = v := ⟨_, rfl⟩
                      have HD4 := Lib.hid hD4; clear hD4
                      obtain ⟨ti4, hti4⟩ : ∃ v, nextT ti (⟨2, at0, nm, tx, atts⟩ : TokR) = v := ⟨_, rfl⟩
                      have Hti4 := Lib.hid hti4; clear hti4
                      go_cut [4] from 22 to 160 (fun s4 wx => s4 = .bool ti4 ∧ D4.length ≤ D3.length + 1 ∧ Hid (TS N jb mb tb pa (.slice (some ⟨bt, 0, none⟩) T.length ct) #[.int .i64 2, .int .i64 (at0 : Int), .string nm, .string tx, .slice Ax atts.length cx] D4 n3 ids3 w0 wx))
                      case first =>
                        as_aux_lemma =>
                          cases bT with
                          | false =>
                            have e1 : D4 = D3 := by rw [← HD4.out, oTitle, if_neg (fun e => by have e1 : nm = titleN := e.1; have e2 : ti = false := e.2.1; have h8 := HbT.out; rw [e1, e2] at h8; simp at h8), List.append_nil]
                            have e2 : ti4 = ti := by
                              have h8 := HbT.out
                              rw [← Hti4.out, nextT]
                              cases ti with
                              | true => rfl
                              | false => simpa using h8
                            subst e1 e2
                            go_wp2_with fail
                            go_meet
                            exact ⟨rfl, by omega, HG⟩
                          | true =>
                            have h8 := HbT.out
                            simp only [Bool.and_eq_true, decide_eq_true_eq, Bool.not_eq_true'] at h8
                            obtain ⟨hnm, hti⟩ := h8
                            have e2 : ti4 = true := by rw [← Hti4.out, nextT]; simp [hnm]
                            subst e2
                            obtain ⟨fv, hbx⟩ := HG.out.js.box
                            have b1 : w6.cell? ⟨jb, 1, none⟩ = some (.slice (some ⟨bt, 0, none⟩) T.length ct) := hbx.c 1
                            have bl := hbx.lt
                            clear hbx
                            have hw1 : IntKind.i64.wrap ((k : Int) + 1) = (k : Int) + 1 := wrap_small (by omega) (by omega)
                            by_cases hend : k + 1 = T.length
                            · have z0 : ((k : Int) + 1 == (T.length : Int)) = true := beq_iff_eq.2 (by omega)
                              have e1 : D4 = D3 ++ [⟨0, 6⟩] := by rw [← HD4.out, oTitle, if_pos ⟨hnm, hti, by rw [goodT, List.getElem?_eq_none (by simp; omega)]⟩]
                              clear hnm hti
                              go_wp2_with (go_at_call 58; go_must (refine (add_q N jb pa _ D3 0 _ 6 w0 _ HG.out.js rfl (by omega)).mono ?_); rintro e wj ⟨rfl, hj, hg⟩; have Hwj := Lib.hid (HG.out.jp hj hg hne); clear hj hg)
                              go_meet
                              exact ⟨rfl, by rw [e1]; simp, by rw [e1]; exact Hwj⟩
                            · have z0 : ((k : Int) + 1 == (T.length : Int)) = false := beq_eq_false_iff_ne.2 (by omega)
                              have q1 : (k : Int) + 1 < (T.length : Int) := by omega
                              have q0 : (0 : Int) ≤ (k : Int) + 1 := by omega
                              obtain ⟨y, hy⟩ : ∃ y, T[k + 1]? = some y := ⟨_, List.getElem?_eq_getElem (by omega)⟩
                              have hytx := HX.out y (List.mem_of_getElem? hy)
                              obtain ⟨_, hyc⟩ := (HT.out w6 HG.out.js.bel).cells (fun _ => rfl) hy
                              have hyg : goodT (T.map (·.1)) k = (decide (y.1.kind = 1) && !blankB y.1.text) := by rw [goodT, map_at hy]
                              clear hy
                              obtain ⟨⟨ykd, yat, ynm, ytx, yatts⟩, yav⟩ := y
                              have y0 := hyc 0 _ rfl
                              have y3 := hyc 3 _ rfl
                              simp only [Nat.add_zero] at y0
                              simp only at hytx hyg
                              clear hyc
                              by_cases hyk : ykd = 1
                              · subst hyk
                                obtain ⟨bl2, hbl2⟩ : ∃ b, blankB ytx = b := ⟨_, rfl⟩
                                have HBl := Lib.hid hbl2
                                cases bl2 with
                                | true =>
                                  have e1 : D4 = D3 ++ [⟨0, 6⟩] := by rw [← HD4.out, oTitle, if_pos ⟨hnm, hti, by rw [hyg, hbl2]; rfl⟩]
                                  clear hnm hti hyg hbl2
                                  go_wp2_with (first
                                    | (go_at_call 60; go_must (refine (blank_q ytx true _ (by omega) HBl.out).mono ?_); rintro e wk ⟨rfl, hb⟩; have Hwk := Lib.hid (HG.out.below hb); clear hb)
                                    | (go_at_call 58; go_must (refine (add_q N jb pa _ D3 0 _ 6 w0 _ Hwk.out.js rfl (by omega)).mono ?_); rintro e wj ⟨rfl, hj, hg⟩; have Hwj := Lib.hid (Hwk.out.jp hj hg hne); clear hj hg))
                                  go_meet
                                  exact ⟨rfl, by rw [e1]; simp, by rw [e1]; exact Hwj⟩
                                | false =>
                                  have e1 : D4 = D3 := by rw [← HD4.out, oTitle, if_neg (fun e => by have := e.2.2; rw [hyg, hbl2] at this; cases this), List.append_nil]
                                  clear hnm hti hyg hbl2
                                  go_wp2_with (go_at_call 60; go_must (refine (blank_q ytx false _ (by omega) HBl.out).mono ?_); rintro e wk ⟨rfl, hb⟩; have Hwk := Lib.hid (HG.out.below hb); clear hb)
                                  go_meet
                                  exact ⟨rfl, by rw [e1]; omega, by rw [e1]; exact Hwk⟩
                              · have z1 : (ykd == 1) = false := beq_eq_false_iff_ne.2 hyk
                                have z2 : (ykd != 1) = true := by rw [bne, z1]; rfl
                                have e1 : D4 = D3 ++ [⟨0, 6⟩] := by rw [← HD4.out, oTitle, if_pos ⟨hnm, hti, by rw [hyg]; simp [hyk]⟩]
                                clear hnm hti hyg hyk
                                go_wp2_with (go_at_call 58; go_must (refine (add_q N jb pa _ D3 0 _ 6 w0 _ HG.out.js rfl (by omega)).mono ?_); rintro e wj ⟨rfl, hj, hg⟩; have Hwj := Lib.hid (HG.out.jp hj hg hne); clear hj hg)
                                go_meet
                                exact ⟨rfl, by rw [e1]; simp, by rw [e1]; exact Hwj⟩
                      case rest =>
                        obtain ⟨rfl, hD4, HH⟩ := hcut
                        obtain ⟨w7, rfl⟩ : ∃ W : World, W = wc := ⟨_, rfl⟩
                        clear x0 x1 x2 x3 x4 xl
                        clear HG
                        obtain ⟨vh, hvh⟩ : ∃ v, attrS hrefN atts = v := ⟨_, rfl⟩
                        have Hvh := Lib.hid hvh; clear hvh
                        obtain ⟨bh, hbh⟩ : ∃ v, (attrV hrefN atts).isSome = v := ⟨_, rfl⟩
                        have Hbh := Lib.hid hbh; clear hbh
                        have x0 := HH.out.tok.c 0
                        have x1 := HH.out.tok.c 1
                        have x2 := HH.out.tok.c 2
                        have x3 := HH.out.tok.c 3
                        have x4 := HH.out.tok.c 4
                        simp only [List.getElem?_toArray, List.getElem?_cons_zero, List.getElem?_cons_succ] at x0 x1 x2 x3 x4
                        have xl := HH.out.tok.lt
                        go_upto_region 25 with (go_at_call 49; go_must (refine (attr_q 2 at0 nm tx _ atts hrefN vh bh _ (HXA.out _ HH.out.js.bel) Hvh.out Hbh.out).mono ?_); rintro e wm ⟨rfl, hb⟩; have Hwm := Lib.hid (HH.out.below hb); clear hb)
                        clear x0 x1 x2 x3 x4 xl
                        have x0 := Hwm.out.tok.c 0
                        have x1 := Hwm.out.tok.c 1
                        have x2 := Hwm.out.tok.c 2
                        have x3 := Hwm.out.tok.c 3
                        have x4 := Hwm.out.tok.c 4
                        simp only [List.getElem?_toArray, List.getElem?_cons_zero, List.getElem?_cons_succ] at x0 x1 x2 x3 x4
                        have xl := Hwm.out.tok.lt
                        obtain ⟨em, hem⟩ : ∃ v, emptyL ((T.map (·.1)).drop (k + 1)) = v := ⟨_, rfl⟩
                        have Hem := Lib.hid hem; clear hem
                        obtain ⟨bE, hbE⟩ : ∃ v, (decide (nm = aN) && bh && em) = v := ⟨_, rfl⟩
                        have HbE := Lib.hid hbE; clear hbE
                        obtain ⟨fv, hbx⟩ := Hwm.out.js.box
                        have HBx := Lib.hid hbx; clear hbx
                        go_cut [155] from 22 to 160 (fun s155 wx => s155 = .bool bE ∧ Hid (TS N jb mb tb pa (.slice (some ⟨bt, 0, none⟩) T.length ct) #[.int .i64 2, .int .i64 (at0 : Int), .string nm, .string tx, .slice Ax atts.length cx] D4 n3 ids3 w0 wx))
                        case first =>
                          as_aux_lemma =>
                            by_cases hn : nm = aN
                            · have z : (nm.toList == [97]) = true := nm_eq' hn
                              have HV := Lib.hid (show bE = (bh && em) by rw [← HbE.out]; simp [hn])
                              clear hn
                              cases bh with
                              | false =>
                                go_wp2_with fail
                                go_meet
                                exact ⟨by rw [HV.out]; rfl, Hwm⟩
                              | true =>
                                go_wp2_with (go_at_call 61; go_must (refine (emptyLink_q jb pa fv T _ ct bt k em _ HBx.out (HT.out _ Hwm.out.js.bel) rfl hlt hlc hct HX.out Hem.out).mono ?_); rintro e wn ⟨rfl, hb⟩; have Hwn := Lib.hid (Hwm.out.below hb); clear hb)
                                go_meet
                                exact ⟨by rw [HV.out]; rfl, Hwn⟩
                            · have z : (nm.toList == [97]) = false := nm_ne' hn
                              have HV := Lib.hid (show bE = false by rw [← HbE.out]; simp [hn])
                              clear hn
                              go_wp2_with fail
                              go_meet
                              exact ⟨by rw [HV.out], Hwm⟩
                        case rest =>
                          obtain ⟨rfl, HK⟩ := hcut
                          obtain ⟨w8, rfl⟩ : ∃ W : World, W = wc := ⟨_, rfl⟩
                          clear x0 x1 x2 x3 x4 xl
                          clear Hwm HBx
                          have x0 := HK.out.tok.c 0
                          have x1 := HK.out.tok.c 1
                          have x2 := HK.out.tok.c 2
                          have x3 := HK.out.tok.c 3
                          have x4 := HK.out.tok.c 4
                          simp only [List.getElem?_toArray, List.getElem?_cons_zero, List.getElem?_cons_succ] at x0 x1 x2 x3 x4
                          have xl := HK.out.tok.lt
                          have HE5 := Lib.hid (show oLink (T.map (·.1)) k (⟨2, at0, nm, tx, atts⟩ : TokR) = bif bE then [⟨at0, 7⟩] else [] from oLink_b (t := (⟨2, at0, nm, tx, atts⟩ : TokR)) (by have h9 := HbE.out; rw [← Hbh.out, ← Hem.out] at h9; exact h9))
                          have HS2 := Lib.hid (tags_open HS.out HMx.out HD1.out HD2.out HD3.out HD4.out Hla2.out Hids3.out Hti4.out HE5.out)
                          cases bE with
                          | true =>
                            go_wp2_with (go_at_call 58; go_must (refine (add_q N jb pa _ D4 at0 _ 7 w0 _ HK.out.js rfl (by omega)).mono ?_); rintro e wp ⟨rfl, hj, hg⟩; have Hwp := Lib.hid (HK.out.jp hj hg hne); clear hj hg)
                            go_roundw
                            case rel => exact ⟨k + 1, n3, la2, ti4, ids3, D4 ++ [(⟨at0, 7⟩ : FaultR)], rfl, rfl, by go_num, by omega, by omega, hl0, hl6, by rw [List.length_append, List.length_singleton]; omega, HS2, Hwp.out.js, Hwp.out.map⟩
                            case measure => simp [intOf]; omega
                          | false =>
                            rw [cond_false, List.append_nil] at HS2
                            go_wp2_with fail
                            go_roundw
                            case rel => exact ⟨k + 1, n3, la2, ti4, ids3, D4, rfl, rfl, by go_num, by omega, by omega, hl0, hl6, by omega, HS2, HK.out.js, HK.out.map⟩
                            case measure => simp [intOf]; omega
      · have hkd1 : (kd == 2) = false := beq_eq_false_iff_ne.2 hkd
        have hkd2 : (kd != 2) = true := by rw [bne, hkd1]; rfl
        have HS2 := Lib.hid (tags_kind HS.out HMx.out hkd)
        clear hkd
        go_wp2_with fail
        go_roundw
        case rel => exact ⟨k + 1, n, la, ti, ids, D, rfl, rfl, by go_num, by omega, by omega, hla0, hla6, by omega, HS2, HJ.out.alloc _, HM.out.alloc _⟩
        case measure => simp [intOf]; omega
    · have hkl : k = T.length := by omega
      have HF := Lib.hid (show tagTo (T.map (·.1)) T.length = ⟨la, ids, ti, D⟩ by rw [← hkl]; exact HS.out)
      clear hkl
      cases ti with
      | true =>
        have HV := Lib.hid (show tagEnd (tagTo (T.map (·.1)) T.length) = D by rw [HF.out, tagEnd, if_pos rfl, List.append_nil])
        go_wp2_with fail
        go_end0
        exact ⟨rfl, by rw [HV.out]; exact HJ.out⟩
      | false =>
        have HV := Lib.hid (show tagEnd (tagTo (T.map (·.1)) T.length) = D ++ [⟨0, 6⟩] by rw [HF.out, tagEnd, if_neg (by simp)])
        go_wp2_with (go_at_call 58; go_must (refine (add_q N jb pa _ D 0 _ 6 w0 _ HJ.out rfl (by omega)).mono ?_); rintro e wz ⟨rfl, hj, hg⟩; have HZ := Lib.hid hj; clear hj hg)
        go_end0
        exact ⟨rfl, by rw [HV.out]; exact HZ.out⟩

end Go.Proofs.YtbhildmalcfhiaaGreatDoor

namespace Go.Proofs.YtbhildmalcfhiaaGreatDoor
open Go.RowKit Go.Deep

set_option maxRecDepth 100000 in
set_option maxHeartbeats 40000000 in
theorem nesting_q (N jb : Nat) (pa : ByteArray) (T : List (TokR × Value)) (tv : Value) (D0 : List FaultR) (w0 w : World) (h : JS N jb pa tv D0 w0 w) (hT : ToksIn w0 tv T) (hL : T.length ≤ 20000) (hD0 : D0.length ≤ 200000) :
    Calls Tryz.prog 32 #[.pointer (some ⟨jb, 0, none⟩)] w fun e w' => e = .returned (.tuple #[]) ∧ JS N jb pa tv (D0 ++ nestEnd (nestTo (T.map (·.1)) T.length)) w0 w' := by
  obtain ⟨At, ct, bt, rfl, hlc, hct, hAt⟩ := hT.shape
  have HAt := Lib.hid hAt; clear hAt
  have HT := Lib.hid (fun wr (hb : Below N w0 wr) => hT.keep (Keeps.of_below (by rw [h.h0]; exact hb)))
  clear hT
  have H0 := Lib.hid (⟨by rw [List.append_nil]; exact h, World.ownsRow_nil _ _ _ _⟩ : NS N jb pa (.slice At T.length ct) (D0 ++ []) [] none 0 w0 w)
  obtain ⟨fv, hbx⟩ := h.box
  have b1 : w.cell? ⟨jb, 1, none⟩ = some (.slice At T.length ct) := hbx.c 1
  have bl := hbx.lt
  clear hbx h
  go_enter Tryz.func32, Tryz.ntmps32
  go_wp2_with fail
  clear b1 bl
  go_loopw [2, 15] (fun t2 t15 wr => ∃ (k : Nat) (O : List (TokR × Value)) (E : List FaultR) (A : Option Addr) (c q : Nat), t2 = .slice A q c ∧ t15 = .int .i64 k ∧ O.length = q ∧ k ≤ T.length ∧ E.length + q ≤ k ∧ Hid (∀ z ∈ O, ∃ Az nz cz, z.2 = .slice Az nz cz) ∧ Hid (nestTo (T.map (·.1)) k = ⟨O.map (·.1), E⟩) ∧ Hid (NS N jb pa (.slice At T.length ct) (D0 ++ E) O A c w0 wr)) (fun _ t15 _ => T.length - (intOf t15).toNat)
  case atStart => exact ⟨0, [], [], none, 0, 0, rfl, rfl, rfl, Nat.zero_le _, Nat.zero_le _, (fun z hz => by cases hz), rfl, H0⟩
  case round =>
    clear H0
    obtain ⟨k, O, E, A, c, q, rfl, rfl, hq, hk, hEq, HAtt, HS, HN⟩ := hrel
    subst hq
    obtain ⟨wo, rfl⟩ : ∃ wo : World, wo = wr := ⟨_, rfl⟩
    have hcm : c ≤ 9223372036854775807 ∧ O.length ≤ c := by
      obtain ⟨A', c', e, h1, h2, _⟩ := own_form HN.out.op
      cases e
      unfold maxLen at h1
      exact ⟨by omega, h2⟩
    obtain ⟨hcm, hOc⟩ := hcm
    have hNo : N ≤ wo.heap.size := HN.out.js.size
    by_cases hlt : k < T.length
    · obtain rfl := HAt.out (by intro h; rw [h] at hlt; simp at hlt)
      obtain ⟨x, hx⟩ : ∃ x, T[k]? = some x := ⟨_, List.getElem?_eq_getElem hlt⟩
      have HMx := Lib.hid (map_at hx)
      obtain ⟨hxa, hxc⟩ := (HT.out wo HN.out.js.bel).cells (fun _ => rfl) hx
      clear hx
      obtain ⟨⟨kd, at0, nm, tx, atts⟩, av⟩ := x
      obtain ⟨Ax, cx, bx, hxv, _⟩ := hxa
      simp only at hxv HMx
      subst hxv
      have p0 := hxc 0 _ rfl
      have p1 := hxc 1 _ rfl
      have p2 := hxc 2 _ rfl
      have p3 := hxc 3 _ rfl
      have p4 := hxc 4 _ rfl
      simp only [Nat.add_zero] at p0
      clear hxc
      by_cases k2 : kd = 2
      · subst k2
        obtain ⟨vb, hvb⟩ : ∃ b, voidB nm = b := ⟨_, rfl⟩
        have HVb := Lib.hid hvb
        cases vb with
        | true =>
          have HS2 := Lib.hid (nest_next HS.out HMx.out (fun e => by have := e.2; simp only at this; rw [hvb] at this; cases this) (by simp))
          clear hvb
          go_wp2_with (go_at_call 62; go_must (refine (isVoid_q nm true _ HVb.out).mono ?_); rintro e w2 ⟨rfl, rfl⟩)
          go_roundw
          case rel => exact ⟨k + 1, O, E, A, c, _, rfl, by go_num, rfl, by omega, by omega, HAtt, HS2, HN.out.alloc _⟩
          case measure => simp [intOf]; omega
        | false =>
          have HS2 := Lib.hid (nest_push HS.out HMx.out rfl hvb)
          clear hvb
          have HNa := Lib.hid (HN.out.alloc (.cells #[.int .i64 2, .int .i64 (at0 : Int), .string nm, .string tx, .slice Ax atts.length cx] 56))
          go_wp2_with (first
            | (go_at_call 62; go_must (refine (isVoid_q nm false _ HVb.out).mono ?_); rintro e w2 ⟨rfl, rfl⟩)
            | (at_builtin; go_must (refine wpList_push _ rfl (.tmp 29) (.tmp 31) 50 rfl N 56 _ 5 72 Tryz.underlying50 info_tok rfl (by omega) (.slice A O.length c) O.length _ rfl (own_alloc HNa.out.op _) (tokRow (⟨2, at0, nm, tx, atts⟩, .slice Ax atts.length cx)) rfl _ rfl (cell_new _ (tokRow (⟨2, at0, nm, tx, atts⟩, .slice Ax atts.length cx)) 56 _ (by rw [World.size_alloc])) (by intro u hu; simp only [tokRow, List.mem_cons, List.not_mem_nil, or_false] at hu; rcases hu with rfl | rfl | rfl | rfl | rfl <;> rfl) (by omega) (by unfold maxLen; omega) (by simp; omega) ?_); intro g6 k6 w6 own6 hg6 hgg6 hb6; have HN6 := Lib.hid ((HNa.out.alloc _).push hg6 own6); clear own6 hg6 hgg6 hb6))
          go_roundw
          case rel => exact ⟨k + 1, O ++ [((⟨2, at0, nm, tx, atts⟩, .slice Ax atts.length cx) : TokR × Value)], E, _, _, _, rfl, by go_num, by simp, by omega, by omega, Lib.hid (fun z hz => by rcases List.mem_append.1 hz with h | h; exact HAtt.out z h; simp only [List.mem_singleton] at h; subst h; exact ⟨_, _, _, rfl⟩), Lib.hid (by rw [List.map_append]; exact HS2.out), HN6⟩
          case measure => simp [intOf]; omega
      by_cases k3 : kd = 3
      · subst k3
        clear k2
        obtain ⟨tb, htb⟩ : ∃ tb, wo.heap.size = tb := ⟨_, rfl⟩
        go_upto_region 7 with fail
        have HNa := Lib.hid (HN.out.alloc (.cells #[.int .i64 3, .int .i64 (at0 : Int), .string nm, .string tx, .slice Ax atts.length cx] 56))
        have HTb := Lib.hid (show CB (wo.alloc (.cells #[.int .i64 3, .int .i64 (at0 : Int), .string nm, .string tx, .slice Ax atts.length cx] 56)) tb 56 #[.int .i64 3, .int .i64 (at0 : Int), .string nm, .string tx, .slice Ax atts.length cx] by rw [← htb]; exact CB.new _ _ _)
        have htj : tb ≠ jb := by obtain ⟨fv, hb⟩ := HN.out.js.box; have := hb.lt; omega
        obtain ⟨wa, hwa⟩ : ∃ W, wo.alloc (.cells #[.int .i64 3, .int .i64 (at0 : Int), .string nm, .string tx, .slice Ax atts.length cx] 56) = W := ⟨_, rfl⟩
        rw [hwa] at HNa HTb
        rw [hwa]
        try rw [htb]
        clear hwa htb p0 p1 p2 p3 p4 HN
        have x1 : wa.cell? ⟨tb, 1, none⟩ = some (.int .i64 (at0 : Int)) := HTb.out.c 1
        have x2 : wa.cell? ⟨tb, 2, none⟩ = some (.string nm) := HTb.out.c 2
        have xl : tb < wa.heap.size := HTb.out.lt
        go_wp2_with fail
        go_loopw [5] (fun t5 wr => ∃ (m : Nat) (kk : Int), t5 = .int .i64 kk ∧ Hid (kk = (m : Int) - 1) ∧ m ≤ O.length ∧ (∃ d : Nat, wr = wa.drewN d) ∧ Hid (findO (O.map (·.1)) nm O.length = findO (O.map (·.1)) nm m)) (fun t5 _ => (intOf t5 + 1).toNat)
        case atStart => exact ⟨O.length, _, rfl, Lib.hid (by first | rfl | omega), Nat.le_refl _, ⟨0, rfl⟩, rfl⟩
        case round =>
          obtain ⟨m, kk, rfl, HKk, hm, ⟨d, rfl⟩, HFd⟩ := hrel
          cases m with
          | zero =>
            obtain rfl : kk = -1 := by have := HKk.out; omega
            have HS2 := Lib.hid (nest_none HS.out HMx.out rfl (by rw [List.length_map, HFd.out]; rfl))
            go_wp2_with fail
            go_quiet (fail)
            obtain ⟨wb, hwb⟩ : ∃ W, (wa.drewN d).drewN nq = W := ⟨_, rfl⟩
            have HNb := Lib.hid (show NS N jb pa (.slice (some ⟨bt, 0, none⟩) T.length ct) (D0 ++ E) O A c w0 wb by rw [← hwb]; exact (HNa.out.drewN d).drewN nq)
            have y1 : wb.cell? ⟨tb, 1, none⟩ = some (.int .i64 (at0 : Int)) := by rw [← hwb]; exact x1
            have yl : tb < wb.heap.size := by rw [← hwb]; exact xl
            rw [hwb]
            clear hwb x1 x2 xl
            go_wp2_with (go_at_call 58; go_must (refine (add_q N jb pa _ (D0 ++ E) at0 _ 5 w0 _ HNb.out.js rfl (by simp only [List.length_append]; omega)).mono ?_); rintro e w5 ⟨rfl, hj, hg⟩; have Hw5 := Lib.hid (HNb.out.jp hj hg); clear hj hg)
            go_roundw
            case rel => exact ⟨k + 1, O, E ++ [⟨at0, 5⟩], A, c, _, rfl, by go_num, rfl, by omega, by rw [List.length_append, List.length_singleton]; omega, HAtt, HS2, Lib.hid (by rw [← List.append_assoc]; exact Hw5.out)⟩
            case measure => simp [intOf]; omega
          | succ m =>
            obtain rfl : kk = (m : Int) := by have := HKk.out; omega
            clear HKk
            obtain ⟨b, rfl, hNb, hbl, hOc2⟩ := own_some HNa.out.op (by omega)
            obtain ⟨y, hy⟩ : ∃ y, O[m]? = some y := ⟨_, List.getElem?_eq_getElem (by omega)⟩
            have HMy := Lib.hid (map_at hy)
            have y2 := own_toks HNa.out.op hy 2 _ rfl
            clear hy
            obtain ⟨⟨yk, ya, yn, yt, yatts⟩, yv⟩ := y
            simp only at y2 HMy
            have g1 : (m : Int) < (O.length : Int) := by omega
            have g2 : decide ((0 : Int) ≤ (m : Int)) = true := by simp
            by_cases hn : yn = nm
            · have HF2 := Lib.hid (HFd.out.trans (find_hit HMy.out hn))
              have HS2 := Lib.hid (nest_some HS.out HMx.out rfl (by rw [List.length_map]; exact HF2.out))
              have z1 : (yn.toList == nm.toList) = true := by rw [hn]; simp
              have z2 : (yn.toList != nm.toList) = false := by rw [bne, z1]; rfl
              clear hn
              go_wp2_with fail
              go_quiet (fail)
              obtain ⟨wb, hwb⟩ : ∃ W, (wa.drewN d).drewN nq = W := ⟨_, rfl⟩
              have HNb := Lib.hid (show NS N jb pa (.slice (some ⟨bt, 0, none⟩) T.length ct) (D0 ++ E) O (some ⟨b, 0, none⟩) c w0 wb by rw [← hwb]; exact (HNa.out.drewN d).drewN nq)
              have y1 : wb.cell? ⟨tb, 1, none⟩ = some (.int .i64 (at0 : Int)) := by rw [← hwb]; exact x1
              have yl : tb < wb.heap.size := by rw [← hwb]; exact xl
              rw [hwb]
              clear hwb x1 x2 xl
              go_wp2_with fail
              all_goals
                obtain ⟨cq, hcq⟩ : ∃ x, x = c := ⟨_, rfl⟩
                first | subst h | skip
                rw [← hcq] at HNb
                have HCq := Lib.hid hcq
                clear y1 yl hcq
                go_loopw [65] (fun t65 wy => ∃ i : Nat, t65 = .int .i64 i ∧ i ≤ O.length - (m + 1) ∧ Hid (NS N jb pa (.slice (some ⟨bt, 0, none⟩) T.length ct) (D0 ++ (E ++ unclosed (((O.map (·.1)).drop (m + 1)).take i))) O (some ⟨b, 0, none⟩) cq w0 wy)) (fun t65 _ => (O.length - (m + 1)) - (intOf t65).toNat)
                case atStart => exact ⟨0, rfl, Nat.zero_le _, Lib.hid (by rw [List.take_zero]; show NS _ _ _ _ (D0 ++ (E ++ [])) _ _ _ _ _; rw [List.append_nil]; exact HNb.out)⟩
                case round =>
                  clear HNb
                  obtain ⟨i, rfl, hi, HNy⟩ := hrel
                  obtain ⟨wy, rfl⟩ : ∃ W : World, W = wr := ⟨_, rfl⟩
                  by_cases hil : i < O.length - (m + 1)
                  · first
                      | (exfalso; omega)
                      | (obtain ⟨z, hz⟩ : ∃ z, O[m + 1 + i]? = some z := ⟨_, List.getElem?_eq_getElem (by omega)⟩
                         have HMz := Lib.hid (map_at hz)
                         have hzc := own_toks HNy.out.op hz
                         have hza := HAtt.out z (List.mem_of_getElem? hz)
                         clear hz
                         obtain ⟨⟨zk, za, zn, zt, zatts⟩, zv⟩ := z
                         obtain ⟨Az, nz, cz, hzv⟩ := hza
                         simp only at hzv
                         subst hzv
                         have u0 := hzc 0 _ rfl
                         have u1 := hzc 1 _ rfl
                         have u2 := hzc 2 _ rfl
                         have u3 := hzc 3 _ rfl
                         have u4 := hzc 4 _ rfl
                         simp only [Nat.add_zero] at u0 HMz
                         rw [show (m + 1 + i) * 5 = (m + 1) * 5 + i * 5 by omega] at u0 u1 u2 u3 u4
                         clear hzc
                         have HU := Lib.hid (unclosed_take (l := (O.map (·.1)).drop (m + 1)) (i := i) (by rw [List.getElem?_drop]; exact HMz.out))
                         have hlE : (D0 ++ (E ++ unclosed (((O.map (·.1)).drop (m + 1)).take i))).length ≤ 1048576 := by simp only [List.length_append, unclosed_len, List.length_take]; omega
                         have HNz := Lib.hid (HNy.out.alloc (.cells #[.int .i64 zk, .int .i64 (za : Int), .string zn, .string zt, .slice Az nz cz] 56))
                         go_wp2_with (go_at_call 58; go_must (refine (add_q N jb pa _ (D0 ++ (E ++ unclosed (((O.map (·.1)).drop (m + 1)).take i))) za _ 4 w0 _ HNz.out.js rfl hlE).mono ?_); rintro e w5 ⟨rfl, hj, hg⟩; have Hw5 := Lib.hid (HNz.out.jp hj hg); clear hj hg)
                         go_roundw
                         case rel => exact ⟨i + 1, by go_num, by omega, Lib.hid (by rw [HU.out, ← List.append_assoc, ← List.append_assoc]; rw [← List.append_assoc] at Hw5; exact Hw5.out)⟩
                         case measure => simp [intOf]; omega)
                  · have HT9 := Lib.hid (show ((O.map (·.1)).drop (m + 1)).take i = (O.map (·.1)).drop (m + 1) by rw [List.take_of_length_le]; simp; omega)
                    rw [HT9.out] at HNy
                    have HNc := Lib.hid (HNy.out.cut (j := m) (by omega))
                    try (have q1 : (m : Int) ≤ (c : Int) := by omega)
                    rw [HCq.out] at HNc
                    have q2 : (0 : Int) ≤ (m : Int) := by omega
                    go_wp2_with fail
                    go_roundw
                    case rel => exact ⟨k + 1, O.take m, E ++ unclosed ((O.map (·.1)).drop (m + 1)), some ⟨b, 0, none⟩, _, m, rfl, by go_num, by rw [List.length_take]; omega, by omega, by rw [List.length_append, unclosed_len, List.length_drop, List.length_map]; omega, Lib.hid (fun z hz => HAtt.out z (List.mem_of_mem_take hz)), Lib.hid (by rw [List.map_take]; exact HS2.out), HNc⟩
                    case measure => simp [intOf]; omega
            · have HF2 := Lib.hid (HFd.out.trans (find_miss HMy.out hn))
              have z1 : (yn.toList == nm.toList) = false := nm_ne hn
              have z2 : (yn.toList != nm.toList) = true := by rw [bne, z1]; rfl
              clear hn
              go_wp2_with fail
              go_quiet (fail)
              go_wp2_with fail
              go_roundw
              case rel => exact ⟨m, (m : Int) - 1, rfl, rfl, by omega, ⟨d + nq, rfl⟩, HF2⟩
              case measure => (simp [intOf]; try omega)
      have HS2 := Lib.hid (nest_next HS.out HMx.out (fun e => k2 e.1) k3)
      have z2 : (kd == 2) = false := beq_eq_false_iff_ne.2 k2
      have z3 : (kd == 3) = false := beq_eq_false_iff_ne.2 k3
      clear k2 k3
      go_wp2_with fail
      go_roundw
      case rel => exact ⟨k + 1, O, E, A, c, _, rfl, by go_num, rfl, by omega, by omega, HAtt, HS2, HN.out.alloc _⟩
      case measure => simp [intOf]; omega
    · have hkl : k = T.length := by omega
      have HF := Lib.hid (show nestTo (T.map (·.1)) T.length = ⟨O.map (·.1), E⟩ by rw [← hkl]; exact HS.out)
      clear hkl
      go_wp2_with fail
      go_loopw [80] (fun t80 wy => ∃ i : Nat, t80 = .int .i64 i ∧ i ≤ O.length ∧ Hid (NS N jb pa (.slice At T.length ct) (D0 ++ (E ++ unclosed ((O.map (·.1)).take i))) O A c w0 wy)) (fun t80 _ => O.length - (intOf t80).toNat)
      case atStart => exact ⟨0, rfl, Nat.zero_le _, Lib.hid (by rw [List.take_zero]; show NS _ _ _ _ (D0 ++ (E ++ [])) _ _ _ _ _; rw [List.append_nil]; exact HN.out)⟩
      case round =>
        clear HN
        obtain ⟨i, rfl, hi, HNy⟩ := hrel
        obtain ⟨wy, rfl⟩ : ∃ W : World, W = wr := ⟨_, rfl⟩
        by_cases hil : i < O.length
        · obtain ⟨b, rfl, hNb, hbl, hOc2⟩ := own_some HNy.out.op (by omega)
          obtain ⟨z, hz⟩ : ∃ z, O[i]? = some z := ⟨_, List.getElem?_eq_getElem (by omega)⟩
          have HMz := Lib.hid (map_at hz)
          have hzc := own_toks HNy.out.op hz
          have hza := HAtt.out z (List.mem_of_getElem? hz)
          clear hz
          obtain ⟨⟨zk, za, zn, zt, zatts⟩, zv⟩ := z
          obtain ⟨Az, nz, cz, hzv⟩ := hza
          simp only at hzv
          subst hzv
          have u0 := hzc 0 _ rfl
          have u1 := hzc 1 _ rfl
          have u2 := hzc 2 _ rfl
          have u3 := hzc 3 _ rfl
          have u4 := hzc 4 _ rfl
          simp only [Nat.add_zero] at u0 HMz
          clear hzc
          have HU := Lib.hid (unclosed_take (l := O.map (·.1)) (i := i) HMz.out)
          have hlE : (D0 ++ (E ++ unclosed ((O.map (·.1)).take i))).length ≤ 1048576 := by simp only [List.length_append, unclosed_len, List.length_take]; omega
          have HNz := Lib.hid (HNy.out.alloc (.cells #[.int .i64 zk, .int .i64 (za : Int), .string zn, .string zt, .slice Az nz cz] 56))
          go_wp2_with (go_at_call 58; go_must (refine (add_q N jb pa _ (D0 ++ (E ++ unclosed ((O.map (·.1)).take i))) za _ 4 w0 _ HNz.out.js rfl hlE).mono ?_); rintro e w5 ⟨rfl, hj, hg⟩; have Hw5 := Lib.hid (HNz.out.jp hj hg); clear hj hg)
          go_roundw
          case rel => exact ⟨i + 1, by go_num, by omega, Lib.hid (by rw [HU.out, ← List.append_assoc, ← List.append_assoc]; rw [← List.append_assoc] at Hw5; exact Hw5.out)⟩
          case measure => simp [intOf]; omega
        · have HT9 := Lib.hid (show (O.map (·.1)).take i = O.map (·.1) by rw [List.take_of_length_le]; simp; omega)
          go_wp2_with fail
          go_end0
          exact ⟨rfl, by rw [HF.out, nestEnd]; have := HNy.out.js; rw [HT9.out] at this; exact this⟩

end Go.Proofs.YtbhildmalcfhiaaGreatDoor

namespace Go.Proofs.YtbhildmalcfhiaaGreatDoor
open Go.RowKit Go.Deep

set_option maxRecDepth 100000 in
set_option maxHeartbeats 20000000 in
theorem shipFaults_q (l : List OutV) (v : Value) (w : World) (h : OutsAt w v l) (hm : MaxT w.heap.size w) :
    Calls Tryz.prog 13 #[v] w (FaultsE (faultsL l) (linksN l) w) := by
  have HL := Lib.hid h
  have HM := Lib.hid hm; clear hm
  obtain ⟨E, hE⟩ : ∃ E, outsE l = E := ⟨_, rfl⟩
  have HE := Lib.hid hE
  by_cases h0 : E = 0
  · subst h0
    have hlen := outsE_len hE
    have HZ := Lib.hid (fun (x : OutV) (hx : x ∈ l) => (by have := path_size (outs_paths hE x hx); omega : x.path.size ≤ 1048576))
    have HAp := Lib.hid (outs_apart hE)
    clear hE
    rcases pagesE_two l with hP | hP
    · have HP0 := Lib.hid hP; clear hP
      have HN := Lib.hid (show linksN l = 0 by rw [linksN, if_pos HE.out, HP0.out])
      obtain ⟨A, c, b, o, rfl, hlc, hc, hA, hcell⟩ := h
      have HC := Lib.hid hcell; clear hcell
      have HA := Lib.hid hA; clear hA
      unfold maxLen at hc
      obtain ⟨K, hK⟩ : ∃ K, w.heap.size = K := ⟨_, rfl⟩
      have HK := Lib.hid hK
      rw [hK] at HM
      have hKw : K ≤ w.heap.size := by omega
      clear hK
      go_enter Tryz.func13, Tryz.ntmps13
      go_upto_region 7 with (first
        | (go_at_call 24; go_must (refine (checkOuts_q l _ 0 _ HL.out HM.out.at_ HE.out).mono ?_); rintro e w1 ⟨rfl, hb1⟩; rw [HK.out] at hb1; have HB1 := Lib.hid hb1; have HL1 := Lib.hid (HL.out.keep (Keeps.of_below (by rw [HK.out]; exact hb1))); have hK1 : K ≤ w1.heap.size := (by have := hb1.size; omega); clear hb1)
        | (go_at_call 25; go_must (refine (pages_q l _ w1 HL1.out ((HM.out.keep HB1.out).up hK1) HZ.out HAp.out).mono ?_); rintro e w2 hp2; obtain ⟨bm, F, rfl, hbm, hP2, hb2⟩ := hp2.ok HP0.out; have HB2 := Lib.hid (HB1.out.trans (hb2.mono hK1)); have HP2 := Lib.hid (hP2.low hK1); clear hb2 hP2 hp2))
      have hK2 : K ≤ w2.heap.size := by have := HB2.out.size; omega
      go_wp2_with fail
      go_loopw [7, 26] (fun t7 t26 wr => ∃ (k : Nat) (D : List (ByteArray × FaultR)) (A' : Option Addr) (c' q : Nat), t7 = .slice A' q c' ∧ t26 = .int .i64 k ∧ D.length = q ∧ k ≤ l.length ∧ q ≤ k * 200000 ∧ Hid (allFa (l.take k) = D) ∧ Hid (wr.ownsRow K 41 3 (.slice A' q c') q (pfCells D)) ∧ Hid (PagesAt wr K bm l.length F l l.length) ∧ Hid (Below K w wr)) (fun _ t26 _ => l.length - (intOf t26).toNat)
      case atStart => exact ⟨0, [], none, 0, 0, rfl, rfl, rfl, Nat.zero_le _, Nat.zero_le _, rfl, World.ownsRow_nil _ _ _ _, HP2, HB2⟩
      case round =>
        clear HP2 HB2 HB1 HL1
        obtain ⟨k, D, A', c', q, rfl, rfl, hq, hk, hqk, HR, HO, HP, HB⟩ := hrel
        have hKr : K ≤ wr.heap.size := by have := HB.out.size; omega
        by_cases hlt : k < l.length
        · obtain ⟨x, hx⟩ : ∃ x, l[k]? = some x := ⟨_, List.getElem?_eq_getElem hlt⟩
          obtain rfl : A = some ⟨b, o, none⟩ := HA.out (by intro h0; rw [h0] at hlt; simp at hlt)
          have kc := (HC.out k x hx).keep (Keeps.of_below (by have := HB.out; rw [← HK.out] at this; exact this))
          have k0 := kc.c0
          have k1 := kc.c1
          have HR2 := Lib.hid (allFa_step HR.out hx)
          have hzx := HZ.out x (List.mem_of_getElem? hx)
          have HXk := Lib.hid hx
          clear hx kc
          obtain ⟨path, body⟩ := x
          simp only at k0 k1 hzx HXk HR2
          obtain ⟨pb, hpb⟩ : ∃ v, pageB path = v := ⟨_, rfl⟩
          have HPb := Lib.hid hpb
          cases pb with
          | false =>
            have HR3 := Lib.hid (HR2.out.trans (by rw [outFa, if_neg (by simp only; rw [hpb]; simp), List.append_nil]))
            clear hpb
            go_wp2_with (go_at_call 30; go_must (refine (isPageS_q path false _ (by omega) HPb.out).mono ?_); rintro e w5 ⟨rfl, rfl⟩)
            go_roundw
            case rel => exact ⟨k + 1, D, A', c', q, rfl, by go_num, hq, by omega, Nat.le_trans hqk (Nat.mul_le_mul_right _ (Nat.le_succ k)), HR3, own_alloc HO.out _, HP.out.alloc _, HB.out.alloc hKr _⟩
            case measure => simp [intOf]; omega
          | true =>
            obtain ⟨tv, L, htv, hO9, hl9⟩ := HP.out.page k _ hlt HXk.out hpb
            simp only at htv hl9
            obtain ⟨At, ct, hov⟩ := hO9.len
            subst hov
            have HO9 := Lib.hid hO9; have HL9 := Lib.hid hl9
            have HFo := Lib.hid (show outFa ⟨path, body⟩ = withP path (faS (tokR body)) by rw [outFa, if_pos hpb])
            have hn9 := toks_len hl9
            have HFl := Lib.hid (show (faS (tokR body)).length ≤ 200000 by have := outFa_len ⟨path, body⟩; rw [HFo.out, withP_len] at this; exact this)
            have HRun := Lib.hid (fun (W : World) (hW : Below wr.heap.size wr W) => (by
              have := VMap.look (HP.out.below hW).map Tryz.underlying9 Tryz.underlying58 (s := path) (by unfold maxLen; omega) (zero_toks W)
              rw [htv] at this
              exact this : (Instr.lookup 58 (.map (some bm)) (.string path) false).run Tryz.prog W = .ok (.slice At L.length ct) W))
            clear hpb htv hO9 hl9
            go_upto_region 13 with (first
              | (go_at_call 30; go_must (refine (isPageS_q path true _ (by omega) HPb.out).mono ?_); rintro e w5 ⟨rfl, rfl⟩)
              | (at_lookup; go_must (refine wpList_lookR rfl _ _ 58 false rfl path _ rfl rfl (HRun.out _ ((Below.refl _ _).alloc (Nat.le_refl _) _)) ?_)))
            obtain ⟨w1, hw1⟩ : ∃ W, wr.alloc (.cells #[.string path, .string body] 62) = W := ⟨_, rfl⟩
            have hs1 : w1.heap.size = wr.heap.size + 1 := by rw [← hw1, World.size_alloc]
            obtain ⟨N, hN⟩ : ∃ N, wr.heap.size + 1 = N := ⟨_, rfl⟩
            obtain ⟨w3, hw3⟩ : ∃ W, (w1.alloc (.cells #[.string path, .slice At L.length ct, .slice none 0 0] 71)).alloc (.cells #[.pointer (some ⟨N, 0, none⟩)] 69) = W := ⟨_, rfl⟩
            rw [hN] at hs1
            have HJ0 := Lib.hid (show JS N N path (.slice At L.length ct) [] w1 w3 by
              rw [← hw3]
              refine ⟨⟨none, 0, by rw [← hs1]; exact (CB.new _ _ _).alloc _, World.ownsRow_nil _ _ _ _⟩, ?_, hs1, Nat.le_refl _, ?_⟩
              · exact (((Below.refl _ _).alloc (by omega) _).alloc (by rw [World.size_alloc]; omega) _)
              · have := CB.new (w1.alloc (.cells #[.string path, .slice At L.length ct, .slice none 0 0] 71)) #[.pointer (some ⟨N, 0, none⟩)] 69
                rw [World.size_alloc, hs1] at this
                exact this)
            have HP1 := Lib.hid (show PagesAt w1 K bm l.length F l l.length by rw [← hw1]; exact HP.out.alloc _)
            have HO1 := Lib.hid (show w1.ownsRow K 41 3 (.slice A' q c') q (pfCells D) by rw [← hw1]; exact own_alloc HO.out _)
            have HT1 := Lib.hid (show ToksIn w1 (.slice At L.length ct) L by rw [← hw1]; exact (HO9.out.alloc _).rows)
            have HB1 := Lib.hid (show Below K w w1 by rw [← hw1]; exact HB.out.alloc hKr _)
            have HS1 := Lib.hid hs1
            try rw [hw1]
            try rw [hN]
            rw [hw3]
            have hKN : K ≤ N := by omega
            clear hw1 hw3 hs1 hN k0 k1 HP HO HB HO9 HRun
            have i0 : w3.cell? ⟨N + 1, 0, none⟩ = some (.pointer (some ⟨N, 0, none⟩)) := HJ0.out.pb.c 0
            have il := HJ0.out.pb.lt
            have hT1 := HL9.out
            have HTx := Lib.hid (page_text hT1); have HTv := Lib.hid (page_vals hT1)
            have hTl := tagEnd_len (L.map (·.1))
            rw [List.length_map] at hTl
            clear hT1
            obtain ⟨D1, hD1⟩ : ∃ D1, tagEnd (tagTo (L.map (·.1)) L.length) = D1 := ⟨_, rfl⟩
            obtain ⟨D2, hD2⟩ : ∃ D2, D1 ++ nestEnd (nestTo (L.map (·.1)) L.length) = D2 := ⟨_, rfl⟩
            have HD2 := Lib.hid (show D2 = faAll (tokR body) by rw [← HL9.out, faAll, List.length_map, hD1, hD2])
            have HD2l := Lib.hid (show D2.length ≤ 200000 by have := faAll_len (tokR body); have := tokR_len body; rw [HD2.out]; omega)
            have hD1l : D1.length ≤ 200000 := by rw [← hD1]; omega
            have HD1 := Lib.hid hD1; have HD2' := Lib.hid hD2
            clear hD1 hD2 hTl
            go_wp2_with (first
              | (go_at_call 31; go_must (refine (tags_q N N path L _ w1 _ HJ0.out HT1.out hn9 HTx.out HTv.out).mono ?_); rintro e w4 ⟨rfl, hj4⟩; rw [HD1.out] at hj4; have HJ4 := Lib.hid hj4; have j0 : w4.cell? ⟨N + 1, 0, none⟩ = some (.pointer (some ⟨N, 0, none⟩)) := HJ4.out.pb.c 0; have jl := HJ4.out.pb.lt; clear hj4)
              | (go_at_call 32; go_must (refine (nesting_q N N path L _ D1 w1 _ HJ4.out HT1.out hn9 hD1l).mono ?_); rintro e w5 ⟨rfl, hj5⟩; rw [HD2'.out] at hj5; obtain ⟨A5, c5, hx5, ho5⟩ := hj5.ex; have HJ5 := Lib.hid hj5; have HX5 := Lib.hid hx5; have HO5 := Lib.hid ho5; have l0 : w5.cell? ⟨N + 1, 0, none⟩ = some (.pointer (some ⟨N, 0, none⟩)) := HJ5.out.pb.c 0; have ll := HJ5.out.pb.lt; have l2 : w5.cell? ⟨N, 2, none⟩ = some (.slice A5 D2.length c5) := HX5.out.c 2; have lx := HX5.out.lt; clear hj5 hx5 ho5)
              | (go_at_call 33; go_must (refine (sortFaults_q N (N + 1) N _ D2 w5 HO5.out (by have := HD2l.out; omega) l0 l2 (own_ne_cb HO5.out HJ5.out.pb (by decide)) (own_ne_cb HO5.out HX5.out (by decide))).mono ?_); rintro e w6 ⟨rfl, L6, hp6, hs6, ho6, hg6⟩; have e6 := faS_of (by rw [← HD2.out]; exact hp6) hs6; subst e6; have hl6 := hp6.length_eq; rw [← hl6] at ho6; have HPl := Lib.hid hl6; have HO6 := Lib.hid ho6; have HX6 := Lib.hid (HX5.out.grown HO5.out hg6 (by decide)); have HQ6 := Lib.hid (HJ5.out.pb.grown HO5.out hg6 (by decide)); have HB6 := Lib.hid (show Below w1.heap.size w1 w6 by rw [HS1.out]; exact HJ5.out.bel.trans (below_of_grown hg6 HJ5.out.size (own_block_ge HO5.out))); have m0 : w6.cell? ⟨N + 1, 0, none⟩ = some (.pointer (some ⟨N, 0, none⟩)) := HQ6.out.c 0; have ml := HQ6.out.lt; have m2 : w6.cell? ⟨N, 2, none⟩ = some (.slice A5 D2.length c5) := HX6.out.c 2; have mx := HX6.out.lt; have HO7 := Lib.hid (own_stay HO1.out HB6.out); have HP7 := Lib.hid (HP1.out.below HB6.out); have HB7 := Lib.hid (HB1.out.trans (HB6.out.mono (by rw [HS1.out]; omega))); have hK6 : K ≤ w6.heap.size := (by have := HB6.out.size; have := HS1.out; omega); clear hp6 hs6 ho6 hg6 hl6)
              | (at_builtin; go_must (rw [← HPl.out]; refine wpList_joinK _ rfl (.tmp 53) (.tmp 57) 36 rfl K 41 _ 3 32 Tryz.underlying36 info_fault rfl (by omega) (.slice A' q c') q _ rfl HO7.out _ (.slice A5 (faS (tokR body)).length c5) (faS (tokR body)).length (faCells path (faS (tokR body))) rfl HO6.out (faCells_one _ _) (by have := HFl.out; omega) (by have := HFl.out; unfold maxLen; omega) hK6 ?_); intro A8 c8 w8 own8 hg8 hb8; have HO8 := Lib.hid own8; have HP8 := Lib.hid (HP7.out.grown HO7.out hg8 (by decide) (by decide)); have HB8 := Lib.hid (HB7.out.trans hb8); clear own8 hg8 hb8))
            go_roundw
            case rel => exact ⟨k + 1, D ++ withP path (faS (tokR body)), A8, c8, _, rfl, by go_num, by rw [List.length_append, hq, withP_len], by omega, by have := HFl.out; omega, Lib.hid (by rw [← HFo.out]; exact HR2.out), Lib.hid (by rw [pfCells_append, pfCells_with]; exact HO8.out), HP8, HB8⟩
            case measure => simp [intOf]; omega
        · have hkl : k = l.length := by omega
          have HF := Lib.hid (show faultsL l = D by rw [faultsL, if_pos HN.out, ← HR.out, hkl, List.take_length])
          clear hkl
          go_wp2_with fail
          go_ret2
          exact FaultsE.mk HK.out.symm HF.out HN.out hq HO.out HB.out
    · have HP0 := Lib.hid hP; clear hP
      have HN := Lib.hid (show linksN l = 4 by rw [linksN, if_pos HE.out, HP0.out])
      have HF := Lib.hid (show faultsL l = [] by rw [faultsL, if_neg (by rw [HN.out]; decide)])
      clear h
      go_enter Tryz.func13, Tryz.ntmps13
      go_wp2_with (first
        | (go_at_call 24; go_must (refine (checkOuts_q l _ 0 _ HL.out HM.out.at_ HE.out).mono ?_); rintro e w1 ⟨rfl, hb1⟩; have HB1 := Lib.hid hb1; have HL1 := Lib.hid (HL.out.keep (Keeps.of_below hb1)); have hK1 := hb1.size; clear hb1)
        | (go_at_call 25; go_must (refine (pages_q l _ w1 HL1.out ((HM.out.keep HB1.out).up hK1) HZ.out HAp.out).mono ?_); rintro e w2 hp2; obtain ⟨rfl, hb2⟩ := hp2.bad HP0.out; have HB2 := Lib.hid (HB1.out.trans (hb2.mono hK1)); clear hb2))
      go_ret2
      exact FaultsE.mk (D := []) rfl HF.out HN.out rfl (World.ownsRow_nil _ _ _ _) HB2.out
  · have HN := Lib.hid (show linksN l = E by rw [linksN, if_neg (by rw [hE]; exact h0), hE])
    have HF := Lib.hid (show faultsL l = [] by rw [faultsL, if_neg (by rw [HN.out]; exact h0)])
    have h0' : (E == 0) = false := beq_eq_false_iff_ne.2 h0
    have h0'' : (E != 0) = true := by rw [bne, h0']; rfl
    clear hE h
    go_enter Tryz.func13, Tryz.ntmps13
    go_wp2_with (go_at_call 24; go_must (refine (checkOuts_q l _ E _ HL.out HM.out.at_ HE.out).mono ?_); rintro e w1 ⟨rfl, hb1⟩; have HB1 := Lib.hid hb1; clear hb1)
    go_ret2
    exact FaultsE.mk (D := []) rfl HF.out HN.out rfl (World.ownsRow_nil _ _ _ _) HB1.out

end Go.Proofs.YtbhildmalcfhiaaGreatDoor
