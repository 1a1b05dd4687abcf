/-
  Equality of two indexes: mastlaw1.sameIndex.
-/
import Derived.Test.YtfeecoeeiangnaaDoorRefIdx
import Derived.Test.YtfeecoeeiangnaaDoorEqualInts
namespace Go.Proofs.YtfeecoeeiangnaaDoor
open Go.RowKit Go.Deep

set_option maxRecDepth 100000 in
set_option maxHeartbeats 2000000 in
theorem equalDocs_same (l : List DocR) (v1 v2 : Value) (w : World) (h1 : DocsAt w v1 l) (h2 : DocsAt w v2 l) :
    Calls Tryd.prog 28 #[v1, v2] w fun e w' => e = .returned (.bool true) ∧ Below w.heap.size w w' := by
  obtain ⟨A1, c1, b1, o1, rfl, hl1, hc1, hA1, hcell1⟩ := h1
  obtain ⟨A2, c2, b2, o2, rfl, hl2, hc2, hA2, hcell2⟩ := h2
  have HC1 := Lib.hid hcell1; have HC2 := Lib.hid hcell2
  have HA1 := Lib.hid hA1; have HA2 := Lib.hid hA2
  clear hcell1 hcell2 hA1 hA2
  unfold maxLen at hc1
  go_enter Tryd.func28, Tryd.ntmps28
  go_wp2_with fail
  go_loopw [13] (fun i wr => ∃ k q : Nat, k ≤ l.length ∧ i = .int .i64 k ∧ wr = w.drewN q) (fun i _ => l.length - (intOf i).toNat)
  case atStart => exact ⟨0, 0, Nat.zero_le _, rfl, rfl⟩
  case round =>
    obtain ⟨k, q, hk, rfl, rfl⟩ := hrel
    by_cases hlt : k < l.length
    · have hne : l ≠ [] := by intro h; rw [h] at hlt; simp at hlt
      obtain rfl := HA1.out hne
      obtain rfl := HA2.out hne
      obtain ⟨x, hx⟩ : ∃ x, l[k]? = some x := ⟨_, List.getElem?_eq_getElem hlt⟩
      obtain ⟨p0, p1, p2⟩ := HC1.out k x hx
      obtain ⟨q0, q1, q2⟩ := HC2.out k x hx
      clear hx
      go_wp2_with fail
      go_quiet (fail)
      go_wp2_with fail
      go_roundw
      case rel => exact ⟨k + 1, q + nq, by omega, by go_num, rfl⟩
      case measure => simp [intOf]; omega
    · go_wp2_with fail
      go_ret
      exact ⟨rfl, Below.drewN' (Below.refl _ _) _⟩

theorem ones_of_ints {w : World} {v : Value} {l : List Int} (h : IntsAt w v l) : OnesAt w v (l.map (.int .i64)) := by
  obtain ⟨A, c, b, o, h1, h2, h3, h4, h5⟩ := h
  refine ⟨A, c, b, o, by rw [List.length_map]; exact h1, by rw [List.length_map]; exact h2, h3, fun hne => h4 (fun e => hne (by rw [e]; rfl)), fun i x hx => ?_⟩
  rw [List.getElem?_map, Option.map_eq_some_iff] at hx
  obtain ⟨n, hn, rfl⟩ := hx
  exact (h5 i n hn).1
theorem equalInts_same (l : List Int) (v1 v2 : Value) (w : World) (h1 : IntsAt w v1 l) (h2 : IntsAt w v2 l) :
    Calls Tryd.prog 29 #[v1, v2] w fun e w' => e = .returned (.bool true) ∧ Below w.heap.size w w' :=
  (equalInts_any l l v1 v2 w (ones_of_ints h1) (ones_of_ints h2)).mono fun e w' ⟨he, hb⟩ => ⟨by rw [he]; simp, hb⟩

set_option maxRecDepth 100000 in
set_option maxHeartbeats 4000000 in
theorem sameIndex_q (D : List DocR) (S : List Int) (T : List TermR) (dv sv tv dv' sv' tv' : Value) (w : World) (h1 : IdxAt w dv sv tv D S T) (h2 : IdxAt w dv' sv' tv' D S T) :
    Calls Tryd.prog 8 #[.agg #[dv, sv, tv], .agg #[dv', sv', tv']] w fun e w' => e = .returned (.bool true) ∧ Below w.heap.size w w' := by
  have H1 := Lib.hid h1; have H2 := Lib.hid h2
  obtain ⟨⟨Ad, cd, bd, od, rfl, _, hcd, _, _⟩, ⟨As, cs, bs, os, rfl, _, hcs, _, _⟩, ⟨At, ct, bt, ot, dt, mt, rfl, hlt1, hct, hAt, hct1⟩⟩ := h1
  obtain ⟨⟨Ad', cd', bd', od', rfl, _, hcd', _, _⟩, ⟨As', cs', bs', os', rfl, _, hcs', _, _⟩, ⟨At', ct', bt', ot', dt', mt', rfl, hlt1', hct', hAt', hct1'⟩⟩ := h2
  have HA := Lib.hid hAt; have HA' := Lib.hid hAt'; have HC := Lib.hid hct1; have HC' := Lib.hid hct1'
  clear hAt hAt' hct1 hct1'
  unfold maxLen at hcd hcs hct hct' hcd' hcs'
  obtain ⟨N, hN⟩ : ∃ N, w.heap.size = N := ⟨_, rfl⟩
  rw [hN]
  have HN := Lib.hid hN
  obtain ⟨W0, hW0⟩ : ∃ W0, (w.alloc (.cells #[.slice Ad D.length cd, .slice As S.length cs, .slice At T.length ct] 26)).alloc (.cells #[.slice Ad' D.length cd', .slice As' S.length cs', .slice At' T.length ct'] 26) = W0 := ⟨_, rfl⟩
  have HX0 := Lib.hid (show CB W0 N 26 #[.slice Ad D.length cd, .slice As S.length cs, .slice At T.length ct] by rw [← hW0, ← hN]; exact (CB.new w _ _).alloc _)
  have HY0 := Lib.hid (show CB W0 (N + 1) 26 #[.slice Ad' D.length cd', .slice As' S.length cs', .slice At' T.length ct'] by
    rw [← hW0, ← hN]
    have q := CB.new (w.alloc (.cells #[.slice Ad D.length cd, .slice As S.length cs, .slice At T.length ct] 26)) #[.slice Ad' D.length cd', .slice As' S.length cs', .slice At' T.length ct'] 26
    rw [World.size_alloc] at q; exact q)
  have HB0 := Lib.hid (show Below N w W0 by rw [← hW0]; exact ((Below.refl _ _).alloc (by omega) _).alloc (by rw [World.size_alloc]; omega) _)
  have bx00 := HX0.out.c 0; have bx01 := HX0.out.c 1; have bx02 := HX0.out.c 2; have by00 := HY0.out.c 0; have by01 := HY0.out.c 1; have by02 := HY0.out.c 2
  go_enter Tryd.func8, Tryd.ntmps8
  go_wp2_with fail
  refine (equalDocs_same D _ _ W0 (H1.out.d.keep (Keeps.of_below (by rw [HN.out]; exact HB0.out))) (H2.out.d.keep (Keeps.of_below (by rw [HN.out]; exact HB0.out)))).mono ?_
  rintro e w1 ⟨rfl, hb⟩
  have HB1 := Lib.hid (HB0.out.trans (hb.mono (by have := HB0.out.size; rw [HN.out] at this; exact this)))
  have HX1 := Lib.hid (HX0.out.below hb); have HY1 := Lib.hid (HY0.out.below hb)
  clear hb
  have bx10 := HX1.out.c 0; have bx11 := HX1.out.c 1; have bx12 := HX1.out.c 2; have by10 := HY1.out.c 0; have by11 := HY1.out.c 1; have by12 := HY1.out.c 2
  go_wp2_with fail
  refine (equalInts_same S _ _ w1 (H1.out.s.keep (Keeps.of_below (by rw [HN.out]; exact HB1.out))) (H2.out.s.keep (Keeps.of_below (by rw [HN.out]; exact HB1.out)))).mono ?_
  rintro e w2 ⟨rfl, hb⟩
  have HB2 := Lib.hid (HB1.out.trans (hb.mono (by have := HB1.out.size; rw [HN.out] at this; exact this)))
  have HX2 := Lib.hid (HX1.out.below hb); have HY2 := Lib.hid (HY1.out.below hb)
  clear hb
  have bx20 := HX2.out.c 0; have bx21 := HX2.out.c 1; have bx22 := HX2.out.c 2; have by20 := HY2.out.c 0; have by21 := HY2.out.c 1; have by22 := HY2.out.c 2
  go_wp2_with fail
  go_loopw [34] (fun t34 wr => ∃ j : Nat, j ≤ T.length ∧ t34 = .int .i64 j ∧ Hid (CB wr (N + 1) 26 #[.slice Ad' D.length cd', .slice As' S.length cs', .slice At' T.length ct']) ∧ Hid (Below N w wr)) (fun t _ => T.length - (intOf t).toNat)
  case atStart => exact ⟨0, Nat.zero_le _, rfl, HY2, HB2⟩
  case round =>
    clear HX2 HY2 HB2
    obtain ⟨j, hj, rfl, HY, HB⟩ := hrel
    by_cases hlt : j < T.length
    · have hne : T ≠ [] := by intro h; rw [h] at hlt; simp at hlt
      obtain rfl := HA.out hne
      obtain rfl := HA'.out hne
      obtain ⟨x, hx⟩ : ∃ x, T[j]? = some x := ⟨_, List.getElem?_eq_getElem hlt⟩
      have K := Keeps.of_below (show Below w.heap.size w wr by rw [HN.out]; exact HB.out)
      obtain ⟨p0, p1, p2, pd, pm⟩ := (HC.out j x hx).keep K
      obtain ⟨q0, q1, q2, qd, qm⟩ := (HC'.out j x hx).keep K
      have y2 := HY.out.c 2
      have PD := Lib.hid pd; have PM := Lib.hid pm; have QD := Lib.hid qd; have QM := Lib.hid qm
      obtain ⟨A1, k1, _, _, e1, _⟩ := pd
      obtain ⟨A2, k2, _, _, e2, _⟩ := pm
      obtain ⟨A3, k3, _, _, e3, _⟩ := qd
      obtain ⟨A4, k4, _, _, e4, _⟩ := qm
      rw [e1] at p1 PD; rw [e2] at p2 PM; rw [e3] at q1 QD; rw [e4] at q2 QM
      obtain ⟨word, docs, many⟩ := x
      simp only at p0 q0 p1 p2 q1 q2 PD PM QD QM
      have hNw : N + 1 < wr.heap.size := HY.out.lt
      clear hx e1 e2 e3 e4 K
      obtain ⟨G, hG⟩ : ∃ G, wr.heap.size = G := ⟨_, rfl⟩
      obtain ⟨W3, hW3⟩ : ∃ W3, (wr.alloc (.cells #[.string word, .slice A1 docs.length k1, .slice A2 many.length k2] 61)).alloc (.cells #[.string word, .slice A3 docs.length k3, .slice A4 many.length k4] 61) = W3 := ⟨_, rfl⟩
      have HB3 := Lib.hid (show Below G wr W3 by rw [← hW3, ← hG]; exact ((Below.refl _ _).alloc (Nat.le_refl _) _).alloc (by rw [World.size_alloc]; omega) _)
      have HU := Lib.hid (show CB W3 G 61 #[.string word, .slice A1 docs.length k1, .slice A2 many.length k2] by rw [← hW3, ← hG]; exact (CB.new wr _ _).alloc _)
      have HV := Lib.hid (show CB W3 (G + 1) 61 #[.string word, .slice A3 docs.length k3, .slice A4 many.length k4] by
        rw [← hW3, ← hG]
        have q := CB.new (wr.alloc (.cells #[.string word, .slice A1 docs.length k1, .slice A2 many.length k2] 61)) #[.string word, .slice A3 docs.length k3, .slice A4 many.length k4] 61
        rw [World.size_alloc] at q; exact q)
      have K3 := Lib.hid (Keeps.of_below (show Below wr.heap.size wr W3 by rw [hG]; exact HB3.out))
      have hNG : N + 1 < G := by omega
      have hbG : bt' < G := by have h9 := World.block_lt_of_cell? _ _ q0; simp only at h9; omega
      have u0 := HU.out.c 0; have u1 := HU.out.c 1; have v0 := HV.out.c 0; have v1 := HV.out.c 1
      go_wp2_with fail
      refine (equalInts_same docs _ _ W3 (PD.out.keep K3.out) (QD.out.keep K3.out)).mono ?_
      rintro e w4 ⟨rfl, hb⟩
      have HB4 := Lib.hid (HB3.out.trans (hb.mono (by have := HB3.out.size; rw [hG] at this; exact this)))
      have HU4 := Lib.hid (HU.out.below hb); have HV4 := Lib.hid (HV.out.below hb)
      have K4 := Lib.hid (Keeps.of_below (show Below wr.heap.size wr w4 by rw [hG]; exact HB4.out))
      clear hb
      have u2 := HU4.out.c 2; have v2 := HV4.out.c 2
      go_wp2_with fail
      refine (equalInts_same many _ _ w4 (PM.out.keep K4.out) (QM.out.keep K4.out)).mono ?_
      rintro e w5 ⟨rfl, hb⟩
      have HB5 := Lib.hid (HB4.out.trans (hb.mono (by have := HB4.out.size; rw [hG] at this; exact this)))
      clear hb
      go_wp2_with fail
      go_roundw
      case rel => exact ⟨j + 1, by omega, by go_num, HY.out.belowB HB5.out (by omega), HB.out.trans (HB5.out.mono (by omega))⟩
      case measure => simp [intOf]; omega
    · go_wp2_with fail
      go_ret
      exact ⟨rfl, HB.out⟩

def ReadsSame (w : World) (e : Ending) (w' : World) : Prop := e = .returned (.bool true) ∧ Below w.heap.size w w'
set_option maxRecDepth 100000 in
set_option maxHeartbeats 2000000 in
theorem shipReads_walk (s : ByteArray) (w : World) (hm : MaxAt w) (htab : TabOk w) : Calls Tryd.prog 3 #[.string s] w fun e w' => e = .returned (.bool true) ∧ Below w.heap.size w w' := by
  have HM := Lib.hid hm; have HT := Lib.hid htab
  clear hm htab
  obtain ⟨N, hN⟩ : ∃ N, w.heap.size = N := ⟨_, rfl⟩
  rw [hN]
  have HN := Lib.hid hN
  have r1 := readIndex_q s w HM.out HT.out
  rw [hN] at r1
  go_enter Tryd.func3, Tryd.ntmps3
  go_wp2_with fail
  refine r1.mono ?_
  clear r1
  rintro e w1 ⟨dv, sv, tv, L, rfl, ho, hb⟩
  obtain ⟨A1, c1, rfl, _, _, _⟩ := own_form ho.od
  obtain ⟨A2, c2, rfl, _, _, _⟩ := own_form ho.os
  obtain ⟨A3, c3, rfl, _, _, _⟩ := own_form ho.ot
  have B1 := Lib.hid hb; have O1 := Lib.hid ho
  clear hb ho
  obtain ⟨G, hG⟩ : ∃ G, w1.heap.size = G := ⟨_, rfl⟩
  have hGN : N ≤ G := by have := B1.out.size; omega
  obtain ⟨W2, hW2⟩ : ∃ W2, w1.alloc (.cells #[.slice A1 (readS s.data.toList).D.length c1, .slice A2 (readS s.data.toList).S.length c2, .slice A3 L.length c3] 26) = W2 := ⟨_, rfl⟩
  have B2 := Lib.hid (show Below N w W2 by rw [← hW2]; exact B1.out.alloc (by omega) _)
  have O2 := Lib.hid (show IdxOwn W2 N _ _ _ (readS s.data.toList) L by rw [← hW2]; exact O1.out.alloc _)
  have X2 := Lib.hid (show CB W2 G 26 #[.slice A1 (readS s.data.toList).D.length c1, .slice A2 (readS s.data.toList).S.length c2, .slice A3 L.length c3] by rw [← hW2, ← hG]; exact CB.new _ _ _)
  have r2 := indexRead_q s W2 (HM.out.keep (Keeps.of_below (by rw [HN.out]; exact B2.out))) (HT.out.keep (by rw [HN.out]; exact B2.out))
  go_wp2_with fail
  refine r2.mono ?_
  clear r2
  rintro e w3 ⟨dv', sv', tv', L', rfl, ho, hb⟩
  obtain ⟨A1', c1', rfl, _, _, _⟩ := own_form ho.od
  obtain ⟨A2', c2', rfl, _, _, _⟩ := own_form ho.os
  obtain ⟨A3', c3', rfl, _, _, _⟩ := own_form ho.ot
  have B3 := Lib.hid (B2.out.trans (hb.mono (by have := B2.out.size; omega)))
  have O3 := Lib.hid (O2.out.below hb); have P3 := Lib.hid ho; have X3 := Lib.hid (X2.out.below hb)
  clear hb ho
  obtain ⟨W4, hW4⟩ : ∃ W4, w3.alloc (.cells #[.slice A1' (readS s.data.toList).D.length c1', .slice A2' (readS s.data.toList).S.length c2', .slice A3' L'.length c3'] 26) = W4 := ⟨_, rfl⟩
  have B4 := Lib.hid (show Below N w W4 by rw [← hW4]; exact B3.out.alloc (by have := B3.out.size; omega) _)
  have O4 := Lib.hid (show IdxOwn W4 N _ _ _ (readS s.data.toList) L by rw [← hW4]; exact O3.out.alloc _)
  have P4 := Lib.hid (show IdxOwn W4 _ _ _ _ (readS s.data.toList) L' by rw [← hW4]; exact P3.out.alloc _)
  have x0 := X3.out.c 0; have x1 := X3.out.c 1; have x2 := X3.out.c 2
  have hG3 : G < w3.heap.size := X3.out.lt
  have y0 := (show CB W4 G 26 _ by rw [← hW4]; exact X3.out.alloc _).c 0; have y1 := (show CB W4 G 26 _ by rw [← hW4]; exact X3.out.alloc _).c 1; have y2 := (show CB W4 G 26 _ by rw [← hW4]; exact X3.out.alloc _).c 2
  obtain ⟨G4, hG4⟩ : ∃ G, w3.heap.size = G := ⟨_, rfl⟩
  have X4 := Lib.hid (show CB W4 G4 26 #[.slice A1' (readS s.data.toList).D.length c1', .slice A2' (readS s.data.toList).S.length c2', .slice A3' L'.length c3'] by rw [← hW4, ← hG4]; exact CB.new _ _ _)
  have z0 := X4.out.c 0; have z1 := X4.out.c 1; have z2 := X4.out.c 2
  go_wp2_with fail
  refine (sameIndex_q (readS s.data.toList).D (readS s.data.toList).S (readS s.data.toList).T _ _ _ _ _ _ W4 O4.out.at P4.out.at).mono ?_
  rintro e w5 ⟨rfl, hb⟩
  have B5 := Lib.hid (B4.out.trans (hb.mono (by have := B4.out.size; omega)))
  clear hb
  go_wp2_with fail
  go_ret
  exact ⟨rfl, B5.out⟩

end Go.Proofs.YtfeecoeeiangnaaDoor
