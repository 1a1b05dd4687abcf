/-
  ship.IndexText; the law of the written indexes, walked.
-/
import Derived.Test.YtgelieahmfahgaaDoorIdxError
namespace Go.Proofs.YtgelieahmfahgaaDoor
open Go.RowKit Go.ChangeShapes Go.WideShapes Go.Deep

theorem idxE_ok {D : List DocR} {S : List Int} {T : List TermR} (h : idxE D S T = 0) : D.length ≤ S.length ∧ ∀ t ∈ T, t.docs.length ≤ t.many.length := by
  unfold idxE at h
  by_cases h1 : frontE D S = 0
  · rw [if_pos h1] at h
    by_cases h2 : termsE D.length T = 0
    · exact ⟨Nat.le_of_eq (front_sizes h1).1.symm, terms_eq h2⟩
    · rw [if_neg h2] at h
      exact absurd h h2
  · rw [if_neg h1] at h
    exact absurd h h1

set_option maxRecDepth 100000 in
set_option maxHeartbeats 2000000 in
theorem shipIndexText_q (D : List DocR) (S : List Int) (T : List TermR) (dv sv tv : Value) (w : World) (h : IdxAt w dv sv tv D S T) (hz : ∀ d ∈ D, d.addr.size ≤ 1048576 ∧ d.title.size ≤ 1048576) (hw : ∀ t ∈ T, t.word.size ≤ 1048576) (hlen : (idxT D S T).length ≤ 1073741824) (htab : TabOk w) (hm : MaxAt w) :
    Calls Tryd.prog 7 #[.agg #[dv, sv, tv]] w fun e w' => e = .returned (.tuple #[.string (if idxE D S T = 0 then ⟨(idxT D S T).toArray⟩ else ⟨#[]⟩), .int .i64 (idxE D S T)]) ∧ Below w.heap.size w w' := by
  have HI := Lib.hid h
  obtain ⟨⟨A, c, b, o, rfl, _, hc, _, _⟩, ⟨A2, c2, b2, o2, rfl, _, _, _, _⟩, ⟨A3, c3, b3, o3, dvs, mvs, rfl, _, hc3, _, _⟩⟩ := h
  unfold maxLen at hc hc3
  have HZ := Lib.hid hz; clear hz
  have HW := Lib.hid hw; clear hw
  have HLen := Lib.hid hlen; clear hlen
  have HTab := Lib.hid htab; clear htab
  have HM := Lib.hid hm; clear hm
  obtain ⟨fe, hfe⟩ : ∃ fe, idxE D S T = fe := ⟨_, rfl⟩
  have HF := Lib.hid hfe
  obtain ⟨tx, htx⟩ : ∃ tx : ByteArray, (⟨(idxT D S T).toArray⟩ : ByteArray) = tx := ⟨_, rfl⟩
  have HX := Lib.hid htx
  rw [hfe, htx]
  clear hfe htx
  go_enter Tryd.func7, Tryd.ntmps7
  go_wp2_with fail
  obtain ⟨W0, hW0⟩ : ∃ W0, w.alloc (.cells #[.slice A D.length c, .slice A2 S.length c2, .slice A3 T.length c3] 26) = W0 := ⟨_, rfl⟩
  have HX0 := Lib.hid (show CB W0 w.heap.size 26 #[.slice A D.length c, .slice A2 S.length c2, .slice A3 T.length c3] by rw [← hW0]; exact CB.new _ _ _)
  have HB0 := Lib.hid (show Below w.heap.size w W0 by rw [← hW0]; exact (Below.refl _ _).alloc (Nat.le_refl _) _)
  rw [hW0]
  clear hW0
  obtain ⟨nb, hnb⟩ : ∃ nb, w.heap.size = nb := ⟨_, rfl⟩
  rw [hnb] at HX0
  have HNb := Lib.hid hnb
  rw [hnb]
  clear hnb
  refine (indexFault_q D S T _ _ _ W0 (HI.out.keep (Keeps.of_below HB0.out)) HZ.out HW.out HLen.out (HTab.out.keep HB0.out) (HM.out.keep (Keeps.of_below HB0.out))).mono ?_
  rw [HF.out]
  rintro e w1 ⟨rfl, hb⟩
  have HX1 := Lib.hid (HX0.out.below hb); have HB1 := Lib.hid (HB0.out.trans (hb.mono HB0.out.size)); clear hb; have bx0 := HX1.out.c 0; have bx1 := HX1.out.c 1; have bx2 := HX1.out.c 2; have bsh := HX1.out.sh
  by_cases hz : fe = 0
  · subst hz
    obtain ⟨hl1, hl2⟩ := idxE_ok HF.out
    have hcall := indexText_q D S T _ _ _ w1 (HI.out.keep (Keeps.of_below HB1.out)) hl1 hl2 HLen.out (HTab.out.keep HB1.out)
    rw [HX.out] at hcall
    clear hl1 hl2
    go_wp2_with (go_at_call 20; go_must (refine hcall.mono ?_); rintro e w2 ⟨rfl, hb⟩; have HB2 := Lib.hid (HB1.out.trans (hb.mono HB1.out.size)); clear hb)
    go_ret2
    exact ⟨by first | rfl | simp, HB2.out⟩
  · have hz2 := Lib.hid hz
    go_wp2_with fail
    go_ret2
    exact ⟨by first | rfl | simp [hz2.out], HB1.out⟩

set_option maxRecDepth 100000 in
set_option maxHeartbeats 2000000 in
theorem shipWrites_walk (D : List DocR) (S : List Int) (T : List TermR) (dv sv tv : Value) (w : World) (h : IdxAt w dv sv tv D S T) (hz : ∀ d ∈ D, d.addr.size ≤ 1048576 ∧ d.title.size ≤ 1048576) (hw : ∀ t ∈ T, t.word.size ≤ 1048576) (hlen : (idxT D S T).length ≤ 1073741824) (htab : TabOk w) (hm : MaxAt w) :
    Calls Tryd.prog 3 #[.agg #[dv, sv, tv]] w fun e w' => e = .returned (.bool true) ∧ Below w.heap.size w w' := by
  have HI := Lib.hid h
  obtain ⟨⟨A, c, b, o, rfl, _, hc, _, _⟩, ⟨A2, c2, b2, o2, rfl, _, _, _, _⟩, ⟨A3, c3, b3, o3, dvs, mvs, rfl, _, hc3, _, _⟩⟩ := h
  unfold maxLen at hc hc3
  have HZ := Lib.hid hz; clear hz
  have HW := Lib.hid hw; clear hw
  have HLen := Lib.hid hlen; clear hlen
  have HTab := Lib.hid htab; clear htab
  have HM := Lib.hid hm; clear hm
  obtain ⟨fe, hfe⟩ : ∃ fe, idxE D S T = fe := ⟨_, rfl⟩
  have HF := Lib.hid hfe
  obtain ⟨tx, htx⟩ : ∃ tx : ByteArray, (⟨(idxT D S T).toArray⟩ : ByteArray) = tx := ⟨_, rfl⟩
  have HX := Lib.hid htx
  clear hfe htx
  go_enter Tryd.func3, Tryd.ntmps3
  go_wp2_with fail
  obtain ⟨W0, hW0⟩ : ∃ W0, w.alloc (.cells #[.slice A D.length c, .slice A2 S.length c2, .slice A3 T.length c3] 26) = W0 := ⟨_, rfl⟩
  have HX0 := Lib.hid (show CB W0 w.heap.size 26 #[.slice A D.length c, .slice A2 S.length c2, .slice A3 T.length c3] by rw [← hW0]; exact CB.new _ _ _)
  have HB0 := Lib.hid (show Below w.heap.size w W0 by rw [← hW0]; exact (Below.refl _ _).alloc (Nat.le_refl _) _)
  rw [hW0]
  clear hW0
  obtain ⟨nb, hnb⟩ : ∃ nb, w.heap.size = nb := ⟨_, rfl⟩
  rw [hnb] at HX0
  have HNb := Lib.hid hnb
  rw [hnb]
  clear hnb
  have hcall := shipIndexText_q D S T _ _ _ W0 (HI.out.keep (Keeps.of_below HB0.out)) HZ.out HW.out HLen.out (HTab.out.keep HB0.out) (HM.out.keep (Keeps.of_below HB0.out))
  rw [HF.out, HX.out] at hcall
  refine hcall.mono ?_
  clear hcall
  rintro e w1 ⟨rfl, hb⟩
  have HX1 := Lib.hid (HX0.out.below hb); have HB1 := Lib.hid (HB0.out.trans (hb.mono HB0.out.size)); clear hb; have bx0 := HX1.out.c 0; have bx1 := HX1.out.c 1; have bx2 := HX1.out.c 2; have bsh := HX1.out.sh
  have hcall := indexError_q D S T _ _ _ w1 (HI.out.keep (Keeps.of_below HB1.out)) HZ.out HW.out HLen.out (HTab.out.keep HB1.out) (HM.out.keep (Keeps.of_below HB1.out))
  rw [HF.out] at hcall
  by_cases hz : fe = 0
  · subst hz
    obtain ⟨hl1, hl2⟩ := idxE_ok HF.out
    rw [if_pos rfl]
    have HL := Lib.hid (And.intro hl1 hl2)
    clear hl1 hl2
    have e1 : (tx.toList == tx.toList) = true := by simp
    go_wp2_with (first
      | (go_at_call 8; go_must (refine hcall.mono ?_); rintro e w2 ⟨rfl, hb⟩; have HX2 := Lib.hid (HX1.out.below hb); have HB2 := Lib.hid (HB1.out.trans (hb.mono HB1.out.size)); clear hb; have bx0 := HX2.out.c 0; have bx1 := HX2.out.c 1; have bx2 := HX2.out.c 2; have bsh := HX2.out.sh)
      | (go_at_call 9; have hc2 := indexBytes_q D S T _ _ _ w2 (HI.out.keep (Keeps.of_below HB2.out)) HL.out.1 HL.out.2 HLen.out (HTab.out.keep HB2.out); rw [HX.out] at hc2; go_must (refine hc2.mono ?_); clear hc2; rintro e w3 ⟨rfl, hb⟩; have HB3 := Lib.hid (HB2.out.trans (hb.mono HB2.out.size)); clear hb))
    go_ret
    exact ⟨rfl, HB3.out⟩
  · rw [if_neg hz]
    have e2 : (fe == fe) = true := by simp
    go_wp2_with (go_at_call 8; go_must (refine hcall.mono ?_); rintro e w2 ⟨rfl, hb⟩; have HB2 := Lib.hid (HB1.out.trans (hb.mono HB1.out.size)); clear hb)
    go_ret
    exact ⟨rfl, HB2.out⟩

end Go.Proofs.YtgelieahmfahgaaDoor
