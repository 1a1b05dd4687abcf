/-
  The part of a document at a heading: mark.Section.
-/
import Derived.Test.YtlganccpgchmeaaDoorIds
import Derived.Test.YtlganccpgchmeaaDoorSecPlain
namespace Go.Proofs.YtlganccpgchmeaaDoor
open Go.RowKit Go.Deep

theorem ones_inv {w : World} {A : Option Addr} {n c : Nat} {xs : List Value} (h : OnesAt w (.slice A n c) xs) : xs.length = n ∧ n ≤ c ∧ c ≤ maxLen ∧ (0 < n → ∃ b o, A = some ⟨b, o, none⟩ ∧ ∀ i x, xs[i]? = some x → w.cell? ⟨b, o + i, none⟩ = some x) := by
  obtain ⟨A', c', b, o, h1, h2, h3, h4, h5⟩ := h
  cases h1
  exact ⟨rfl, h2, h3, fun hn => ⟨b, o, h4 (by intro h0; rw [h0] at hn; simp at hn), h5⟩⟩
theorem strB_ne {a b : ByteArray} (h : a ≠ b) : (a.toList == b.toList) = false := by
  rw [Go.ByteArray.toList_eq, Go.ByteArray.toList_eq, beq_eq_false_iff_ne]
  exact fun he => h (Go.WideShapes.bytes_inj he)

set_option maxRecDepth 100000 in
set_option maxHeartbeats 8000000 in
theorem section_q (l : List Node) (v : Value) (s : ByteArray) (w : World) (h : NodesAt w v l) (hw : weight l ≤ 1048576) (htab : TabOk w) : Calls Tryd.prog 10 #[v, .string s] w (SecPost l s.data.toList w) := by
  have H := Lib.hid h
  have HTab := Lib.hid htab
  obtain ⟨An, cn, bl, ol, kv, rfl, hlc, hcn, hA, hcell, hkid⟩ := h.inv
  have HCm := Lib.hid hcn
  have HA := Lib.hid hA
  have HCell := Lib.hid hcell
  have HKid := Lib.hid hkid
  have htt : total l ≤ 1073741824 := by have := total_weight _ l (Nat.le_refl _); omega
  unfold maxLen at hcn
  obtain ⟨N, hN⟩ : ∃ N, w.heap.size = N := ⟨_, rfl⟩
  have HN := Lib.hid hN
  clear hA hcell hkid
  by_cases h0 : docErr l = 0
  · have ht : total l ≤ 4000 := (docErr_zero h0).1
    have hll : l.length ≤ 4000 := by have := total_len l; omega
    have H0 := Lib.hid h0; clear h0 h htab
    have HL := Lib.hid (ids_q l (.slice An l.length cn))
    unfold SecPost
    rw [hN]
    clear hN
    go_enter Tryd.func10, Tryd.ntmps10
    go_wp2_with fail
    refine (check_any l _ _ H.out htt).mono ?_
    rw [H0.out]
    rintro e w1 ⟨rfl, hb⟩
    rw [HN.out] at hb
    have HB1 := Lib.hid hb; clear hb
    go_wp2_with fail
    refine (HL.out _ (H.out.keep (Keeps.of_below (by rw [HN.out]; exact HB1.out))) ht hw (HTab.out.keep (by rw [HN.out]; exact HB1.out))).mono ?_
    rintro e w2 ⟨Ai, ci, rfl, own, hb2⟩
    have hil : (idsL (headsL l)).length = (headsL l).length := idsL_len _
    have HI2 := Lib.hid (OnesAt.of_own own)
    have HB2 := Lib.hid (HB1.out.trans (hb2.mono (by have := HB1.out.size; have := HN.out; omega))); clear hb2 own HL HTab
    obtain ⟨m, hm⟩ : ∃ m, (idsL (headsL l)).length = m := ⟨_, rfl⟩
    rw [hm] at HI2 hil
    have hml : m ≤ 4000 := by rw [hil]; have := heads_len l; omega
    rw [hm]
    have HM := Lib.hid hil
    clear hm hil
    go_wp2_with fail
    try go_frame
    go_loopw [7, 21] (fun t7 t21 wr => ∃ (k n7 c7 : Nat) (A7 : Option Addr), k ≤ l.length ∧ t21 = .int .i64 k ∧ t7 = .slice A7 n7 c7 ∧ n7 + countH l k = m ∧ Hid (OnesAt wr (.slice A7 n7 c7) (strCells ((idsL (headsL l)).drop (countH l k)))) ∧ Hid (∀ j, j < k → ¬ HitAt l s.data.toList j) ∧ Hid (Below N w wr)) (fun _ t _ => l.length - (intOf t).toNat)
    case atStart => exact ⟨0, m, ci, Ai, Nat.zero_le _, rfl, rfl, by rw [countH_zero]; rfl, Lib.hid (by rw [countH_zero]; exact HI2.out), Lib.hid (fun j hj => absurd hj (by omega)), HB2⟩
    case round =>
      clear HI2 HB2 HB1
      obtain ⟨k, n7, c7, A7, hk, rfl, rfl, hn7, HI, HNo, HB⟩ := hrel
      by_cases hlt : k < l.length
      · obtain rfl := HA.out (by rintro rfl; simp at hlt)
        obtain ⟨x, hx⟩ : ∃ x, l[k]? = some x := ⟨_, List.getElem?_eq_getElem hlt⟩
        have hcs := countH_succ hx
        have hc1 := countH_le l (k + 1)
        have HNn := Lib.hid (NodesAt.one1 hlc HCm.out hx ((HCell.out k x hx).keep (Keeps.of_below (by rw [HN.out]; exact HB.out))) ((HKid.out k x hx).keep (Keeps.of_below (by rw [HN.out]; exact HB.out))))
        obtain ⟨p0, p1, p2, p3, p4, p5, q0, q1, q2, q3, q4⟩ := (HCell.out k x hx).keep (Keeps.of_below (by rw [HN.out]; exact HB.out))
        obtain ⟨A3, c3, b3, o3, k3, e3, _, _, _, _, _⟩ := (HKid.out k x hx).inv
        rw [e3] at p5
        have hw1 : total [x] ≤ 1048576 := by have h8 := total_take hx; have h9 := total_le l (k + 1); simp only [total_cons, total]; omega
        have HX := Lib.hid hx
        obtain ⟨hh, hhh⟩ : ∃ hh, (headsN x).length = hh := ⟨_, rfl⟩
        rw [hhh] at hcs
        have HHh := Lib.hid hhh
        obtain ⟨cnt, hcnt⟩ : ∃ c, countH l k = c := ⟨_, rfl⟩
        rw [hcnt] at hn7 hcs HI
        have HCnt := Lib.hid hcnt
        have HCs := Lib.hid hcs
        have hhn : hh ≤ n7 := by rw [hcs] at hc1; rw [← HM.out] at hc1; omega
        obtain ⟨hxl, hnc7, hcm7, h7⟩ := ones_inv HI.out
        have H7 := Lib.hid h7
        unfold maxLen at hcm7
        have hck : ¬ cn = k := by omega
        have HB1 := Lib.hid (HB.out.alloc (by have := HB.out.size; have := HN.out; omega) (.cells #[.int .i64 x.kind, .int .i64 x.level, .string x.text, .string x.dest, .string x.title, .slice A3 x.kids.length c3] 31))
        have HI1 := Lib.hid (HI.out.keep (Keeps.alloc wr (.cells #[.int .i64 x.kind, .int .i64 x.level, .string x.text, .string x.dest, .string x.title, .slice A3 x.kids.length c3] 31)))
        have HY1 := Lib.hid (CB.new wr #[.int .i64 x.kind, .int .i64 x.level, .string x.text, .string x.dest, .string x.title, .slice A3 x.kids.length c3] 31)
        have HN1 := Lib.hid (HNn.out.keep (Keeps.alloc wr (.cells #[.int .i64 x.kind, .int .i64 x.level, .string x.text, .string x.dest, .string x.title, .slice A3 x.kids.length c3] 31)))
        obtain ⟨nb, hnb⟩ : ∃ nb, wr.heap.size = nb := ⟨_, rfl⟩
        rw [hnb] at HY1
        have HNb := Lib.hid hnb
        clear hx e3 hcnt hcs hc1 hhh h7 hnb hxl
        go_wp2_with fail
        rw [HNb.out]
        refine (headings_any _ _ [x] _ _ (Nat.le_refl _) HN1.out (Keeps.refl _) hw1).mono ?_
        rintro e w4 ⟨Ah, ch, ps, rfl, hps, _, _, hb4⟩
        rw [heads_one] at hps
        have hpl : ps.length = hh := by rw [ps_len hps, HHh.out]
        rw [hpl]
        have HB4 := Lib.hid (HB1.out.trans (hb4.mono (by have := HB1.out.size; have := HN.out; omega)))
        have HI4 := Lib.hid (HI1.out.keep (Keeps.of_below hb4))
        have HY4 := Lib.hid (HY1.out.below hb4)
        have y0 := HY4.out.c 0
        have y1 := HY4.out.c 1
        simp only [List.getElem?_toArray, List.getElem?_cons_zero, List.getElem?_cons_succ] at y0 y1
        clear hps hpl hb4 HI HB HNn HB1 HI1 HN1 HY1 p0 p1 p2 p3 p4 p5 q0 q1 q2 q3 q4
        have HSl := Lib.hid (ones_drop HI4.out hhn)
        by_cases hkx : x.kind = 1
        · have hcl := countH_lt HX.out hkx
          have hn0 : 0 < n7 := by rw [HCnt.out, ← HM.out] at hcl; omega
          obtain ⟨b7, o7, rfl, h5⟩ := H7.out hn0
          have HSl := Lib.hid (ones_drop_at HI4.out hhn)
          obtain ⟨idl, hidl⟩ : ∃ i, (idsL (headsL l))[cnt]? = some i := ⟨_, List.getElem?_eq_getElem (by rw [idsL_len, ← HCnt.out]; exact hcl)⟩
          obtain ⟨z, hz⟩ : ∃ z : ByteArray, (⟨idl.toArray⟩ : ByteArray) = z := ⟨_, rfl⟩
          have hz2 : z.data.toList = idl := by rw [← hz]
          have hidk : w4.cell? ⟨b7, o7, none⟩ = some (.string z) := by
            obtain ⟨_, _, _, h7'⟩ := ones_inv HI4.out
            obtain ⟨b8, o8, he, h8⟩ := h7' hn0
            cases he
            have := h8 0 (.string z) (by rw [← hz]; simp [strCells, hidl])
            simpa using this
          have HId := Lib.hid hidl
          have HZ := Lib.hid hz2
          have HKx := Lib.hid hkx
          have t1 : (x.kind == 1) = true := by simp; omega
          clear hidl hz hz2 h5 hcl hkx
          by_cases hzs : z = s
          · have HZs := Lib.hid hzs
            have HHit := Lib.hid (show HitAt l s.data.toList k from ⟨x, HX.out, HKx.out, by rw [HCnt.out, HId.out, ← hzs, HZ.out]⟩)
            have HFirst := Lib.hid (show FirstH l s.data.toList k from ⟨HHit.out, HNo.out⟩)
            have t2 : (z.toList == s.toList) = true := by rw [hzs]; simp
            clear hzs HSl HNo
            go_wp2_with fail
            clear t2 hidk
            go_loopw [11] (fun t11 wr2 => ∃ (j q : Nat), k < j ∧ j ≤ l.length ∧ t11 = .int .i64 j ∧ Hid (∀ i, k < i → i < j → ¬ StopK l x.level i) ∧ wr2 = w4.drewN q) (fun t _ => l.length - (intOf t).toNat)
            case atStart => exact ⟨k + 1, 0, by omega, by omega, by go_num, Lib.hid (fun i h1 h2 => absurd h1 (by omega)), rfl⟩
            case round =>
              obtain ⟨j, q, hj1, hj2, rfl, HSt, rfl⟩ := hrel
              by_cases hjl : j < l.length
              · obtain ⟨y, hy⟩ : ∃ y, l[j]? = some y := ⟨_, List.getElem?_eq_getElem hjl⟩
                obtain ⟨p0, p1, p2, p3, p4, p5, q0, q1, q2, q3, q4⟩ := (HCell.out j y hy).keep (Keeps.of_below (by rw [HN.out]; exact HB4.out))
                have HYj := Lib.hid hy
                clear hy q2 q3 q4 p2 p3 p4 p5
                by_cases hy1 : y.kind = 1
                · have t3 : (y.kind == 1) = true := by simp; omega
                  by_cases hy2 : y.level ≤ x.level
                  · have t4 : decide (y.level ≤ x.level) = true := by simp; omega
                    have HEnd := Lib.hid (show EndH l k x.level j from ⟨hj1, hj2, HSt.out, Or.inr ⟨y, HYj.out, hy1, hy2⟩⟩)
                    clear hy1 hy2 HSt
                    go_wp2_with fail
                    go_quiet (fail)
                    go_wp2_with fail
                    have HMid := Lib.hid (NodesAt.mid hlc HCm.out hj1 hj2 (fun i n hi => (HCell.out i n hi).keep (Keeps.of_below (by rw [HN.out]; exact Below.drewN' HB4.out _))) (fun i n hi => (HKid.out i n hi).keep (Keeps.of_below (by rw [HN.out]; exact Below.drewN' HB4.out _))) : NodesAt (w4.drewN (q + nq)) _ _)
                    have HB5 := Lib.hid (show Below N w (w4.drewN (q + nq)) from Below.drewN' HB4.out _)
                    go_must (refine (clone_any _ ((l.drop k).take (j - k)) _ _ (Nat.le_refl _) HMid.out (by have := total_mid l k (j - k); omega)).mono ?_)
                    rintro e w6 ⟨u, rfl, hT, hb6⟩
                    obtain ⟨A5, c5, hu⟩ := hT.slice
                    have hlen : ((l.drop k).take (j - k)).length = j - k := by rw [List.length_take, List.length_drop]; omega
                    rw [hlen] at hu
                    subst hu
                    have HT := Lib.hid hT.nodes
                    have HB6 := Lib.hid (HB5.out.trans (hb6.mono (by have := HB5.out.size; have := HN.out; omega)))
                    clear hT hb6 hlen
                    go_wp2_with fail
                    go_ret2
                    exact ⟨HB6.out, Or.inr (Or.inr ⟨H0.out, k, j, x, A5, c5, HFirst.out, HX.out, HEnd.out, rfl, HT.out⟩)⟩
                  · have t4 : decide (y.level ≤ x.level) = false := by simp; omega
                    have HNs := Lib.hid (show ¬ StopK l x.level j from fun ⟨n, hn, _, h2⟩ => by rw [HYj.out] at hn; cases hn; exact hy2 h2)
                    clear hy1 hy2
                    go_wp2_with fail
                    go_quiet (fail)
                    go_wp2_with fail
                    go_roundw
                    case rel => exact ⟨j + 1, q + nq, by omega, by omega, by go_num, Lib.hid (fun i h1 h2 => by
                      rcases Nat.lt_succ_iff_lt_or_eq.1 h2 with h3 | rfl
                      · exact HSt.out i h1 h3
                      · exact HNs.out), rfl⟩
                    case measure => simp [intOf]; omega
                · have t3 : (y.kind == 1) = false := by simp; omega
                  have HNs := Lib.hid (show ¬ StopK l x.level j from fun ⟨n, hn, h2, _⟩ => by rw [HYj.out] at hn; cases hn; exact hy1 h2)
                  clear hy1
                  go_wp2_with fail
                  go_quiet (fail)
                  go_wp2_with fail
                  go_roundw
                  case rel => exact ⟨j + 1, q + nq, by omega, by omega, by go_num, Lib.hid (fun i h1 h2 => by
                    rcases Nat.lt_succ_iff_lt_or_eq.1 h2 with h3 | rfl
                    · exact HSt.out i h1 h3
                    · exact HNs.out), rfl⟩
                  case measure => simp [intOf]; omega
              · have HEnd := Lib.hid (show EndH l k x.level j from ⟨hj1, hj2, HSt.out, Or.inl (by omega)⟩)
                clear HSt
                go_wp2_with fail
                go_quiet (fail)
                go_wp2_with fail
                have HMid := Lib.hid (NodesAt.mid hlc HCm.out hj1 hj2 (fun i n hi => (HCell.out i n hi).keep (Keeps.of_below (by rw [HN.out]; exact Below.drewN' HB4.out _))) (fun i n hi => (HKid.out i n hi).keep (Keeps.of_below (by rw [HN.out]; exact Below.drewN' HB4.out _))) : NodesAt (w4.drewN (q + nq)) _ _)
                have HB5 := Lib.hid (show Below N w (w4.drewN (q + nq)) from Below.drewN' HB4.out _)
                go_must (refine (clone_any _ ((l.drop k).take (j - k)) _ _ (Nat.le_refl _) HMid.out (by have := total_mid l k (j - k); omega)).mono ?_)
                rintro e w6 ⟨u, rfl, hT, hb6⟩
                obtain ⟨A5, c5, hu⟩ := hT.slice
                have hlen : ((l.drop k).take (j - k)).length = j - k := by rw [List.length_take, List.length_drop]; omega
                rw [hlen] at hu
                subst hu
                have HT := Lib.hid hT.nodes
                have HB6 := Lib.hid (HB5.out.trans (hb6.mono (by have := HB5.out.size; have := HN.out; omega)))
                clear hT hb6 hlen
                go_wp2_with fail
                go_ret2
                exact ⟨HB6.out, Or.inr (Or.inr ⟨H0.out, k, j, x, A5, c5, HFirst.out, HX.out, HEnd.out, rfl, HT.out⟩)⟩
          · have t2 := strB_ne hzs
            have HNh := Lib.hid (show ¬ HitAt l s.data.toList k from fun ⟨n, _, _, h2⟩ => by
              rw [HCnt.out, HId.out] at h2
              exact hzs (Go.WideShapes.bytes_inj (by rw [HZ.out]; exact Option.some.inj h2)))
            clear hzs
            go_wp2_with fail
            go_roundw
            case rel => exact ⟨k + 1, n7 - hh, c7 - hh, _, by omega, by go_num, rfl, by rw [HCs.out]; omega, Lib.hid (by rw [HCs.out, ← List.drop_drop]; exact HSl.out), Lib.hid (fun j hj => by
              rcases Nat.lt_succ_iff_lt_or_eq.1 hj with h1 | rfl
              · exact HNo.out j h1
              · exact HNh.out), HB4⟩
            case measure => simp [intOf]; omega
        · have t1 : (x.kind == 1) = false := by simp; omega
          have HNh := Lib.hid (show ¬ HitAt l s.data.toList k from fun ⟨n, hn, h2, _⟩ => by rw [HX.out] at hn; cases hn; exact hkx h2)
          clear hkx
          go_wp2_with fail
          go_roundw
          case rel => exact ⟨k + 1, n7 - hh, c7 - hh, _, by omega, by go_num, rfl, by rw [HCs.out]; omega, Lib.hid (by rw [HCs.out, ← List.drop_drop]; exact HSl.out), Lib.hid (fun j hj => by
            rcases Nat.lt_succ_iff_lt_or_eq.1 hj with h1 | rfl
            · exact HNo.out j h1
            · exact HNh.out), HB4⟩
          case measure => simp [intOf]; omega
      · have HAll := Lib.hid (show ∀ i, ¬ HitAt l s.data.toList i from fun i hi => by
          rcases Nat.lt_or_ge i k with h1 | h1
          · exact HNo.out i h1 hi
          · obtain ⟨n, hn, _⟩ := hi
            have := (List.getElem?_eq_some_iff.1 hn).1
            omega)
        clear HNo
        go_wp2_with fail
        go_ret2
        exact ⟨HB.out, Or.inr (Or.inl ⟨H0.out, HAll.out, rfl⟩)⟩
  · clear h htab hN hlc
    have g1 : (docErr l != 0) = true := by simp [h0]
    have H0 := Lib.hid h0; clear h0
    go_enter Tryd.func10, Tryd.ntmps10
    go_wp2_with fail
    refine (check_any l _ _ H.out htt).mono ?_
    rintro e w1 ⟨rfl, hb⟩
    have HB := Lib.hid hb; clear hb
    go_wp2_with fail
    go_ret2
    exact ⟨HB.out, Or.inl ⟨H0.out, rfl⟩⟩

end Go.Proofs.YtlganccpgchmeaaDoor
