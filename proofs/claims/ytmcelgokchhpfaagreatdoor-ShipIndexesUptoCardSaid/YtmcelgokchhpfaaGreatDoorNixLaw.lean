/-
  The law of the made indexes, walked.
-/
import Derived.Test.YtmcelgokchhpfaaGreatDoorOwn
import Derived.BigQuiet
import Derived.Deep.QuietTactic
import Derived.Outline
import Derived.RegionTactic
import Derived.Test.YtmcelgokchhpfaaGreatDoorReadOwn
import Derived.Test.YtmcelgokchhpfaaGreatDoorRefNix
import Derived.Test.YtmcelgokchhpfaaGreatDoorNewIdx
namespace Go.Proofs.YtmcelgokchhpfaaGreatDoor
open Go.RowKit Go.Deep

theorem drop_eq_iff {α : Type} [BEq α] [LawfulBEq α] {l1 l2 : List α} {k : Nat} {a b : α} (h1 : l1[k]? = some a) (h2 : l2[k]? = some b) :
    (l1.drop k == l2.drop k) = (a == b && l1.drop (k + 1) == l2.drop (k + 1)) := by
  obtain ⟨a1, rfl⟩ := List.getElem?_eq_some_iff.1 h1
  obtain ⟨a2, rfl⟩ := List.getElem?_eq_some_iff.1 h2
  rw [List.drop_eq_getElem_cons a1, List.drop_eq_getElem_cons a2]
  rfl

set_option maxHeartbeats 1000000 in
theorem equalInts_any (l1 l2 : List Int) (v1 v2 : Value) (w : World) (h1 : OnesAt w v1 (l1.map (.int .i64))) (h2 : OnesAt w v2 (l2.map (.int .i64))) :
    Calls Tryz.prog 21 #[v1, v2] w fun e w' => e = .returned (.bool (l1 == l2)) ∧ Below w.heap.size w w' := by
  obtain ⟨A1, c1, b1, o1, rfl, hl1, hc1, hA1, hcell1⟩ := h1
  obtain ⟨A2, c2, b2, o2, rfl, hl2, hc2, hA2, hcell2⟩ := h2
  rw [List.length_map] at *
  unfold maxLen at hc1
  by_cases hne : l1.length = l2.length
  · have hd : ((l1.length : Int) != (l2.length : Int)) = false := by simp [hne]
    have Hne := Lib.hid hne
    go_enter Tryz.func21, Tryz.ntmps21
    go_wp2_with fail
    go_loopw [13] (fun i wr => ∃ k q : Nat, k ≤ l1.length ∧ i = .int .i64 k ∧ (l1 == l2) = (l1.drop k == l2.drop k) ∧ wr = w.drewN q) (fun i _ => l1.length - (intOf i).toNat)
    case atStart => exact ⟨0, 0, Nat.zero_le _, rfl, rfl, rfl⟩
    case round =>
      obtain ⟨k, q, hk, rfl, hs, rfl⟩ := hrel
      by_cases hlt : k < l1.length
      · have hA1' := hA1 (by intro h; simp only [List.map_eq_nil_iff] at h; subst h; simp at hlt)
        have hA2' := hA2 (by intro h; simp only [List.map_eq_nil_iff] at h; subst h; simp at hne; simp [hne] at hlt)
        subst hA1'
        subst hA2'
        obtain ⟨x, hx⟩ : ∃ x, l1[k]? = some x := ⟨_, List.getElem?_eq_getElem hlt⟩
        obtain ⟨y, hy⟩ : ∃ x, l2[k]? = some x := ⟨_, List.getElem?_eq_getElem (by omega)⟩
        have p0 := hcell1 k (.int .i64 x) (by rw [List.getElem?_map, hx]; rfl)
        have q0 := hcell2 k (.int .i64 y) (by rw [List.getElem?_map, hy]; rfl)
        have H := Lib.hid hs; clear hs
        have HD := Lib.hid (drop_eq_iff hx hy); clear hx hy
        have hlt2 : k < l2.length := by omega
        clear hne hcell1 hcell2 hA1 hA2
        by_cases hxy : x = y
        · subst hxy
          go_wp2_with fail
          go_quiet (fail)
          go_wp2_with fail
          go_roundw
          case rel => exact ⟨k + 1, q + nq, by omega, by go_num, by rw [H.out, HD.out]; simp, rfl⟩
          case measure => simp [intOf]; omega
        · go_wp2_with fail
          go_quiet (fail)
          have hb : (x != y) = true := by simp [hxy]
          go_wp2_with fail
          go_ret
          exact ⟨ret_bool (by rw [H.out, HD.out]; simp [hxy]), Below.drewN' (Below.drewN' (Below.refl _ _) _) _⟩
      · have hke : k = l1.length := by omega
        have H := Lib.hid hs; clear hs
        have hlt2 : ¬ k < l2.length := by omega
        have Hke := Lib.hid hke
        clear hne hke
        go_wp2_with fail
        go_ret
        exact ⟨ret_bool (by rw [H.out, Hke.out, List.drop_length, Hne.out, List.drop_length]; rfl), Below.drewN' (Below.refl _ _) _⟩
  · have hd : ((l1.length : Int) != (l2.length : Int)) = true := by simp; omega
    have Hne := Lib.hid hne
    clear hne
    go_enter Tryz.func21, Tryz.ntmps21
    go_wp2_with fail
    go_ret
    refine ⟨ret_bool ?_, Below.refl _ _⟩
    rw [eq_comm, beq_eq_false_iff_ne]
    intro h
    exact Hne.out (by rw [h])
end Go.Proofs.YtmcelgokchhpfaaGreatDoor

namespace Go.Proofs.YtmcelgokchhpfaaGreatDoor
open Go.RowKit Go.Deep

set_option maxRecDepth 100000 in
set_option maxHeartbeats 2000000 in
theorem equalDocs_same (l : List DocR) (v1 v2 : Value) (w : World) (h1 : DocsAt w v1 l) (h2 : DocsAt w v2 l) :
    Calls Tryz.prog 20 #[v1, v2] w fun e w' => e = .returned (.bool true) ∧ Below w.heap.size w w' := by
  obtain ⟨A1, c1, b1, o1, rfl, hl1, hc1, hA1, hcell1⟩ := h1
  obtain ⟨A2, c2, b2, o2, rfl, hl2, hc2, hA2, hcell2⟩ := h2
  have HC1 := Lib.hid hcell1; have HC2 := Lib.hid hcell2
  have HA1 := Lib.hid hA1; have HA2 := Lib.hid hA2
  clear hcell1 hcell2 hA1 hA2
  unfold maxLen at hc1
  go_enter Tryz.func20, Tryz.ntmps20
  go_wp2_with fail
  go_loopw [13] (fun i wr => ∃ k q : Nat, k ≤ l.length ∧ i = .int .i64 k ∧ wr = w.drewN q) (fun i _ => l.length - (intOf i).toNat)
  case atStart => exact ⟨0, 0, Nat.zero_le _, rfl, rfl⟩
  case round =>
    obtain ⟨k, q, hk, rfl, rfl⟩ := hrel
    by_cases hlt : k < l.length
    · have hne : l ≠ [] := by intro h; rw [h] at hlt; simp at hlt
      obtain rfl := HA1.out hne
      obtain rfl := HA2.out hne
      obtain ⟨x, hx⟩ : ∃ x, l[k]? = some x := ⟨_, List.getElem?_eq_getElem hlt⟩
      obtain ⟨p0, p1, p2⟩ := HC1.out k x hx
      obtain ⟨q0, q1, q2⟩ := HC2.out k x hx
      clear hx
      go_wp2_with fail
      go_quiet (fail)
      go_wp2_with fail
      go_roundw
      case rel => exact ⟨k + 1, q + nq, by omega, by go_num, rfl⟩
      case measure => simp [intOf]; omega
    · go_wp2_with fail
      go_ret
      exact ⟨rfl, Below.drewN' (Below.refl _ _) _⟩

theorem ones_of_ints {w : World} {v : Value} {l : List Int} (h : IntsAt w v l) : OnesAt w v (l.map (.int .i64)) := by
  obtain ⟨A, c, b, o, h1, h2, h3, h4, h5⟩ := h
  refine ⟨A, c, b, o, by rw [List.length_map]; exact h1, by rw [List.length_map]; exact h2, h3, fun hne => h4 (fun e => hne (by rw [e]; rfl)), fun i x hx => ?_⟩
  rw [List.getElem?_map, Option.map_eq_some_iff] at hx
  obtain ⟨n, hn, rfl⟩ := hx
  exact (h5 i n hn).1
theorem equalInts_same (l : List Int) (v1 v2 : Value) (w : World) (h1 : IntsAt w v1 l) (h2 : IntsAt w v2 l) :
    Calls Tryz.prog 21 #[v1, v2] w fun e w' => e = .returned (.bool true) ∧ Below w.heap.size w w' :=
  (equalInts_any l l v1 v2 w (ones_of_ints h1) (ones_of_ints h2)).mono fun e w' ⟨he, hb⟩ => ⟨by rw [he]; simp, hb⟩

set_option maxRecDepth 100000 in
set_option maxHeartbeats 4000000 in
theorem sameIndex_q (D : List DocR) (S : List Int) (T : List TermR) (dv sv tv dv' sv' tv' : Value) (w : World) (h1 : IdxAt w dv sv tv D S T) (h2 : IdxAt w dv' sv' tv' D S T) :
    Calls Tryz.prog 6 #[.agg #[dv, sv, tv], .agg #[dv', sv', tv']] w fun e w' => e = .returned (.bool true) ∧ Below w.heap.size w w' := by
  have H1 := Lib.hid h1; have H2 := Lib.hid h2
  obtain ⟨⟨Ad, cd, bd, od, rfl, _, hcd, _, _⟩, ⟨As, cs, bs, os, rfl, _, hcs, _, _⟩, ⟨At, ct, bt, ot, dt, mt, rfl, hlt1, hct, hAt, hct1⟩⟩ := h1
  obtain ⟨⟨Ad', cd', bd', od', rfl, _, hcd', _, _⟩, ⟨As', cs', bs', os', rfl, _, hcs', _, _⟩, ⟨At', ct', bt', ot', dt', mt', rfl, hlt1', hct', hAt', hct1'⟩⟩ := h2
  have HA := Lib.hid hAt; have HA' := Lib.hid hAt'; have HC := Lib.hid hct1; have HC' := Lib.hid hct1'
  clear hAt hAt' hct1 hct1'
  unfold maxLen at hcd hcs hct hct' hcd' hcs'
  obtain ⟨N, hN⟩ : ∃ N, w.heap.size = N := ⟨_, rfl⟩
  rw [hN]
  have HN := Lib.hid hN
  obtain ⟨W0, hW0⟩ : ∃ W0, (w.alloc (.cells #[.slice Ad D.length cd, .slice As S.length cs, .slice At T.length ct] 26)).alloc (.cells #[.slice Ad' D.length cd', .slice As' S.length cs', .slice At' T.length ct'] 26) = W0 := ⟨_, rfl⟩
  have HX0 := Lib.hid (show CB W0 N 26 #[.slice Ad D.length cd, .slice As S.length cs, .slice At T.length ct] by rw [← hW0, ← hN]; exact (CB.new w _ _).alloc _)
  have HY0 := Lib.hid (show CB W0 (N + 1) 26 #[.slice Ad' D.length cd', .slice As' S.length cs', .slice At' T.length ct'] by
    rw [← hW0, ← hN]
    have q := CB.new (w.alloc (.cells #[.slice Ad D.length cd, .slice As S.length cs, .slice At T.length ct] 26)) #[.slice Ad' D.length cd', .slice As' S.length cs', .slice At' T.length ct'] 26
    rw [World.size_alloc] at q; exact q)
  have HB0 := Lib.hid (show Below N w W0 by rw [← hW0]; exact ((Below.refl _ _).alloc (by omega) _).alloc (by rw [World.size_alloc]; omega) _)
  have bx00 := HX0.out.c 0; have bx01 := HX0.out.c 1; have bx02 := HX0.out.c 2; have by00 := HY0.out.c 0; have by01 := HY0.out.c 1; have by02 := HY0.out.c 2
  go_enter Tryz.func6, Tryz.ntmps6
  go_wp2_with fail
  refine (equalDocs_same D _ _ W0 (H1.out.d.keep (Keeps.of_below (by rw [HN.out]; exact HB0.out))) (H2.out.d.keep (Keeps.of_below (by rw [HN.out]; exact HB0.out)))).mono ?_
  rintro e w1 ⟨rfl, hb⟩
  have HB1 := Lib.hid (HB0.out.trans (hb.mono (by have := HB0.out.size; rw [HN.out] at this; exact this)))
  have HX1 := Lib.hid (HX0.out.below hb); have HY1 := Lib.hid (HY0.out.below hb)
  clear hb
  have bx10 := HX1.out.c 0; have bx11 := HX1.out.c 1; have bx12 := HX1.out.c 2; have by10 := HY1.out.c 0; have by11 := HY1.out.c 1; have by12 := HY1.out.c 2
  go_wp2_with fail
  refine (equalInts_same S _ _ w1 (H1.out.s.keep (Keeps.of_below (by rw [HN.out]; exact HB1.out))) (H2.out.s.keep (Keeps.of_below (by rw [HN.out]; exact HB1.out)))).mono ?_
  rintro e w2 ⟨rfl, hb⟩
  have HB2 := Lib.hid (HB1.out.trans (hb.mono (by have := HB1.out.size; rw [HN.out] at this; exact this)))
  have HX2 := Lib.hid (HX1.out.below hb); have HY2 := Lib.hid (HY1.out.below hb)
  clear hb
  have bx20 := HX2.out.c 0; have bx21 := HX2.out.c 1; have bx22 := HX2.out.c 2; have by20 := HY2.out.c 0; have by21 := HY2.out.c 1; have by22 := HY2.out.c 2
  go_wp2_with fail
  go_loopw [34] (fun t34 wr => ∃ j : Nat, j ≤ T.length ∧ t34 = .int .i64 j ∧ Hid (CB wr (N + 1) 26 #[.slice Ad' D.length cd', .slice As' S.length cs', .slice At' T.length ct']) ∧ Hid (Below N w wr)) (fun t _ => T.length - (intOf t).toNat)
  case atStart => exact ⟨0, Nat.zero_le _, rfl, HY2, HB2⟩
  case round =>
    clear HX2 HY2 HB2
    obtain ⟨j, hj, rfl, HY, HB⟩ := hrel
    by_cases hlt : j < T.length
    · have hne : T ≠ [] := by intro h; rw [h] at hlt; simp at hlt
      obtain rfl := HA.out hne
      obtain rfl := HA'.out hne
      obtain ⟨x, hx⟩ : ∃ x, T[j]? = some x := ⟨_, List.getElem?_eq_getElem hlt⟩
      have K := Keeps.of_below (show Below w.heap.size w wr by rw [HN.out]; exact HB.out)
      obtain ⟨p0, p1, p2, pd, pm⟩ := (HC.out j x hx).keep K
      obtain ⟨q0, q1, q2, qd, qm⟩ := (HC'.out j x hx).keep K
      have y2 := HY.out.c 2
      have PD := Lib.hid pd; have PM := Lib.hid pm; have QD := Lib.hid qd; have QM := Lib.hid qm
      obtain ⟨A1, k1, _, _, e1, _⟩ := pd
      obtain ⟨A2, k2, _, _, e2, _⟩ := pm
      obtain ⟨A3, k3, _, _, e3, _⟩ := qd
      obtain ⟨A4, k4, _, _, e4, _⟩ := qm
      rw [e1] at p1 PD; rw [e2] at p2 PM; rw [e3] at q1 QD; rw [e4] at q2 QM
      obtain ⟨word, docs, many⟩ := x
      simp only at p0 q0 p1 p2 q1 q2 PD PM QD QM
      have hNw : N + 1 < wr.heap.size := HY.out.lt
      clear hx e1 e2 e3 e4 K
      obtain ⟨G, hG⟩ : ∃ G, wr.heap.size = G := ⟨_, rfl⟩
      obtain ⟨W3, hW3⟩ : ∃ W3, (wr.alloc (.cells #[.string word, .slice A1 docs.length k1, .slice A2 many.length k2] 44)).alloc (.cells #[.string word, .slice A3 docs.length k3, .slice A4 many.length k4] 44) = W3 := ⟨_, rfl⟩
      have HB3 := Lib.hid (show Below G wr W3 by rw [← hW3, ← hG]; exact ((Below.refl _ _).alloc (Nat.le_refl _) _).alloc (by rw [World.size_alloc]; omega) _)
      have HU := Lib.hid (show CB W3 G 44 #[.string word, .slice A1 docs.length k1, .slice A2 many.length k2] by rw [← hW3, ← hG]; exact (CB.new wr _ _).alloc _)
      have HV := Lib.hid (show CB W3 (G + 1) 44 #[.string word, .slice A3 docs.length k3, .slice A4 many.length k4] by
        rw [← hW3, ← hG]
        have q := CB.new (wr.alloc (.cells #[.string word, .slice A1 docs.length k1, .slice A2 many.length k2] 44)) #[.string word, .slice A3 docs.length k3, .slice A4 many.length k4] 44
        rw [World.size_alloc] at q; exact q)
      have K3 := Lib.hid (Keeps.of_below (show Below wr.heap.size wr W3 by rw [hG]; exact HB3.out))
      have hNG : N + 1 < G := by omega
      have hbG : bt' < G := by have h9 := World.block_lt_of_cell? _ _ q0; simp only at h9; omega
      have u0 := HU.out.c 0; have u1 := HU.out.c 1; have v0 := HV.out.c 0; have v1 := HV.out.c 1
      go_wp2_with fail
      refine (equalInts_same docs _ _ W3 (PD.out.keep K3.out) (QD.out.keep K3.out)).mono ?_
      rintro e w4 ⟨rfl, hb⟩
      have HB4 := Lib.hid (HB3.out.trans (hb.mono (by have := HB3.out.size; rw [hG] at this; exact this)))
      have HU4 := Lib.hid (HU.out.below hb); have HV4 := Lib.hid (HV.out.below hb)
      have K4 := Lib.hid (Keeps.of_below (show Below wr.heap.size wr w4 by rw [hG]; exact HB4.out))
      clear hb
      have u2 := HU4.out.c 2; have v2 := HV4.out.c 2
      go_wp2_with fail
      refine (equalInts_same many _ _ w4 (PM.out.keep K4.out) (QM.out.keep K4.out)).mono ?_
      rintro e w5 ⟨rfl, hb⟩
      have HB5 := Lib.hid (HB4.out.trans (hb.mono (by have := HB4.out.size; rw [hG] at this; exact this)))
      clear hb
      go_wp2_with fail
      go_roundw
      case rel => exact ⟨j + 1, by omega, by go_num, HY.out.belowB HB5.out (by omega), HB.out.trans (HB5.out.mono (by omega))⟩
      case measure => simp [intOf]; omega
    · go_wp2_with fail
      go_ret
      exact ⟨rfl, HB.out⟩

def ReadsSame (w : World) (e : Ending) (w' : World) : Prop := e = .returned (.bool true) ∧ Below w.heap.size w w'

end Go.Proofs.YtmcelgokchhpfaaGreatDoor

namespace Go.Proofs.YtmcelgokchhpfaaGreatDoor
open Go.RowKit Go.Deep

set_option maxRecDepth 100000 in
set_option maxHeartbeats 4000000 in
theorem shipIndexes_walk (D : List DocR) (dv : Value) (w : World) (h : DocsAt w dv D) (hz : ∀ d ∈ D, d.addr.size ≤ 1048576 ∧ d.title.size ≤ 1048576 ∧ d.text.size ≤ 1048576) (hm : MaxAt w) (htab : TabOk w) (hw : nixW D ≤ 1048576) :
    Calls Tryz.prog 3 #[dv] w fun e w' => e = .returned (.bool true) ∧ Below w.heap.size w w' := by
  have HD := Lib.hid h; have HM := Lib.hid hm; have HT := Lib.hid htab; have HZ := Lib.hid hz; have HW := Lib.hid hw
  clear h hm htab hz hw
  obtain ⟨N, hN⟩ : ∃ N, w.heap.size = N := ⟨_, rfl⟩
  obtain ⟨fe, hfe⟩ : ∃ fe, nixE D = fe := ⟨_, rfl⟩
  have HF := Lib.hid hfe
  have r1 := newIndex_q D dv w HD.out HZ.out HM.out HT.out HW.out
  rw [hN] at r1
  rw [hN]
  have HN := Lib.hid hN
  clear hN hfe
  go_enter Tryz.func3, Tryz.ntmps3
  go_wp2_with fail
  refine r1.mono ?_
  clear r1
  rintro e w1 ⟨dv1, sv, tv, L, rfl, ho, hb⟩
  rw [HF.out]
  obtain ⟨A1, c1, rfl, _, _, _⟩ := own_form ho.od
  obtain ⟨A2, c2, rfl, _, _, _⟩ := own_form ho.os
  obtain ⟨A3, c3, rfl, _, _, _⟩ := own_form ho.ot
  have B1 := Lib.hid hb; have O1 := Lib.hid ho
  clear hb ho
  obtain ⟨G, hG⟩ : ∃ G, w1.heap.size = G := ⟨_, rfl⟩
  have hGN : N ≤ G := by have := B1.out.size; have := HN.out; omega
  obtain ⟨W2, hW2⟩ : ∃ W2, w1.alloc (.cells #[.slice A1 (nixSt D).D.length c1, .slice A2 (nixSt D).S.length c2, .slice A3 L.length c3] 26) = W2 := ⟨_, rfl⟩
  have B2 := Lib.hid (show Below N w W2 by rw [← hW2]; exact B1.out.alloc (by omega) _)
  have O2 := Lib.hid (show IdxOwn W2 N _ _ _ (nixSt D) L by rw [← hW2]; exact O1.out.alloc _)
  have X2 := Lib.hid (show CB W2 G 26 #[.slice A1 (nixSt D).D.length c1, .slice A2 (nixSt D).S.length c2, .slice A3 L.length c3] by rw [← hW2, ← hG]; exact CB.new _ _ _)
  have r2 := indexOf_q D dv W2 (HD.out.keep (Keeps.of_below (by rw [HN.out]; exact B2.out))) HZ.out (HM.out.keep (Keeps.of_below (by rw [HN.out]; exact B2.out))) (HT.out.keep (by rw [HN.out]; exact B2.out)) HW.out
  go_wp2_with fail
  refine r2.mono ?_
  clear r2
  rintro e w3 ⟨dv', sv', tv', L', rfl, ho, hb⟩
  rw [HF.out]
  obtain ⟨A1', c1', rfl, _, _, _⟩ := own_form ho.od
  obtain ⟨A2', c2', rfl, _, _, _⟩ := own_form ho.os
  obtain ⟨A3', c3', rfl, _, _, _⟩ := own_form ho.ot
  have B3 := Lib.hid (B2.out.trans (hb.mono (by have := B2.out.size; rw [HN.out] at this; exact this)))
  have O3 := Lib.hid (O2.out.below hb); have P3 := Lib.hid ho; have X3 := Lib.hid (X2.out.below hb)
  clear hb ho
  obtain ⟨W4, hW4⟩ : ∃ W4, w3.alloc (.cells #[.slice A1' (nixSt D).D.length c1', .slice A2' (nixSt D).S.length c2', .slice A3' L'.length c3'] 26) = W4 := ⟨_, rfl⟩
  have B4 := Lib.hid (show Below N w W4 by rw [← hW4]; exact B3.out.alloc (by have := B3.out.size; rw [HN.out] at this; exact this) _)
  have O4 := Lib.hid (show IdxOwn W4 N _ _ _ (nixSt D) L by rw [← hW4]; exact O3.out.alloc _)
  have P4 := Lib.hid (show IdxOwn W4 _ _ _ _ (nixSt D) L' by rw [← hW4]; exact P3.out.alloc _)
  have x0 := X3.out.c 0; have x1 := X3.out.c 1; have x2 := X3.out.c 2
  have hG3 : G < w3.heap.size := X3.out.lt
  have y0 := (show CB W4 G 26 _ by rw [← hW4]; exact X3.out.alloc _).c 0; have y1 := (show CB W4 G 26 _ by rw [← hW4]; exact X3.out.alloc _).c 1; have y2 := (show CB W4 G 26 _ by rw [← hW4]; exact X3.out.alloc _).c 2
  obtain ⟨G4, hG4⟩ : ∃ G, w3.heap.size = G := ⟨_, rfl⟩
  have X4 := Lib.hid (show CB W4 G4 26 #[.slice A1' (nixSt D).D.length c1', .slice A2' (nixSt D).S.length c2', .slice A3' L'.length c3'] by rw [← hW4, ← hG4]; exact CB.new _ _ _)
  have z0 := X4.out.c 0; have z1 := X4.out.c 1; have z2 := X4.out.c 2
  have e1 : (fe == fe) = true := by simp
  go_wp2_with fail
  refine (sameIndex_q (nixSt D).D (nixSt D).S (nixSt D).T _ _ _ _ _ _ W4 O4.out.at P4.out.at).mono ?_
  rintro e w5 ⟨rfl, hb⟩
  have B5 := Lib.hid (B4.out.trans (hb.mono (by have := B4.out.size; rw [HN.out] at this; exact this)))
  clear hb
  go_wp2_with fail
  go_ret
  exact ⟨rfl, B5.out⟩

end Go.Proofs.YtmcelgokchhpfaaGreatDoor
