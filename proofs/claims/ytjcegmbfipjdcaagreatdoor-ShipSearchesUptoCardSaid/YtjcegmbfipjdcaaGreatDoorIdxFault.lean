/-
  The error of an index: ship.indexFault; ship.IndexText.
-/
import Derived.Test.YtjcegmbfipjdcaaGreatDoorIdxTerm
import Derived.Deep.CutRange
import Derived.Test.YtjcegmbfipjdcaaGreatDoorWords2
namespace Go.Proofs.YtjcegmbfipjdcaaGreatDoor
open Go.RowKit Go.ChangeShapes Go.WideShapes Go.Deep

theorem termsE_start (n : Nat) (T : List TermR) : termsE n T = firstE (termE1 n T) (T.length - 0) 0 := rfl
theorem oneWord_len {x : ByteArray} (h : ¬ (wordsAux x.data.toList []).length = 1) : oneWord x = false := by
  rw [oneWord, beq_eq_false_iff_ne]
  intro e
  rw [e] at h
  exact h rfl
theorem oneWord_one {x : ByteArray} {s : List UInt8} {v : Bool} (h : wordsAux x.data.toList [] = [s]) (hv : ((⟨s.toArray⟩ : ByteArray).toList == x.toList) = v) : oneWord x = v := by
  rw [oneWord, h, ← hv, Go.ByteArray.toList_eq, Go.ByteArray.toList_eq]
  simp

set_option maxRecDepth 100000 in
set_option maxHeartbeats 4000000 in
theorem indexFault_q (D : List DocR) (S : List Int) (T : List TermR) (dv sv tv : Value) (w : World) (h : IdxAt w dv sv tv D S T) (hz : ∀ d ∈ D, d.addr.size ≤ 1048576 ∧ d.title.size ≤ 1048576) (hw : ∀ t ∈ T, t.word.size ≤ 1048576) (hlen : (idxT D S T).length ≤ 1073741824) (htab : TabOk w) (hm : MaxAt w) :
    Calls Tryz.prog 28 #[.agg #[dv, sv, tv]] w fun e w' => e = .returned (.int .i64 (idxE D S T)) ∧ Below w.heap.size w w' := by
  have HI := Lib.hid h
  obtain ⟨⟨A, c, b, o, rfl, _, hc, _, _⟩, ⟨A2, c2, b2, o2, rfl, _, _, _, _⟩, ⟨A3, c3, b3, o3, dvs, mvs, rfl, hlc3, hc3, hA3, hcell3⟩⟩ := h
  unfold maxLen at hc hc3
  have HCell3 := Lib.hid hcell3; clear hcell3
  have HA3 := Lib.hid hA3; clear hA3
  have HZ := Lib.hid hz; clear hz
  have HW := Lib.hid hw; clear hw
  have HLen := Lib.hid hlen; clear hlen
  have HTab := Lib.hid htab; clear htab
  have HM := Lib.hid hm; clear hm
  go_enter Tryz.func28, Tryz.ntmps28
  go_wp2_with fail
  obtain ⟨W0, hW0⟩ : ∃ W0, w.alloc (.cells #[.slice A D.length c, .slice A2 S.length c2, .slice A3 T.length c3] 33) = W0 := ⟨_, rfl⟩
  have HX0 := Lib.hid (show CB W0 w.heap.size 33 #[.slice A D.length c, .slice A2 S.length c2, .slice A3 T.length c3] by rw [← hW0]; exact CB.new _ _ _)
  have HB0 := Lib.hid (show Below w.heap.size w W0 by rw [← hW0]; exact (Below.refl _ _).alloc (Nat.le_refl _) _)
  rw [hW0]
  clear hW0
  obtain ⟨nb, hnb⟩ : ∃ nb, w.heap.size = nb := ⟨_, rfl⟩
  rw [hnb] at HX0
  have HNb := Lib.hid hnb
  rw [hnb]
  clear hnb
  refine (docsFault_q D S T _ _ _ W0 (HI.out.keep (Keeps.of_below HB0.out)) HZ.out (HM.out.keep (Keeps.of_below HB0.out))).mono ?_
  rintro e w1 ⟨rfl, hb1⟩
  have HX1 := Lib.hid (HX0.out.below hb1)
  have HB1 := Lib.hid (HB0.out.trans (hb1.mono HB0.out.size))
  clear hb1 HX0 HB0
  have bx2 := HX1.out.c 2
  have bsh := HX1.out.sh
  obtain ⟨fe, hfe⟩ : ∃ fe, frontE D S = fe := ⟨_, rfl⟩
  rw [hfe]
  by_cases hf : fe = 0
  · subst hf
    have HF := Lib.hid hfe
    clear hfe
    go_wp2_with fail
    go_loopw [16] (fun t wr => ∃ k : Nat, k ≤ T.length ∧ t = .int .i64 k ∧ Hid (Below w.heap.size w wr) ∧ Hid (CB wr nb 33 #[.slice A D.length c, .slice A2 S.length c2, .slice A3 T.length c3]) ∧ Hid (termsE D.length T = firstE (termE1 D.length T) (T.length - k) k)) (fun t _ => T.length - (intOf t).toNat)
    case atStart => exact ⟨0, Nat.zero_le _, rfl, HB1.out, HX1.out, termsE_start _ _⟩
    case round =>
      clear HB1 HX1 bx2 bsh
      obtain ⟨k, hk, rfl, HB, HX, HE⟩ := hrel
      obtain ⟨wo, rfl⟩ : ∃ wo : World, wo = wr := ⟨_, rfl⟩
      by_cases hlt : k < T.length
      · have hA3' := HA3.out (by rintro rfl; simp at hlt)
        subst hA3'
        clear HA3
        obtain ⟨⟨word, ds, ms⟩, hn⟩ : ∃ n, T[k]? = some n := ⟨_, List.getElem?_eq_getElem hlt⟩
        have H1 := Lib.hid (termE1_at (n := D.length) hn)
        have hwz := HW.out _ (List.mem_of_getElem? hn)
        simp only at hwz
        obtain ⟨q0, q1, q2, qd, qm⟩ := (HCell3.out k _ hn).keep (Keeps.of_below HB.out)
        obtain ⟨dq, hdq⟩ : ∃ dq, dvs k = dq := ⟨_, rfl⟩
        obtain ⟨mq, hmq⟩ : ∃ mq, mvs k = mq := ⟨_, rfl⟩
        rw [hdq] at q1 qd
        rw [hmq] at q2 qm
        simp only at q0 q1 q2 qd qm
        have QD := Lib.hid (hdq ▸ (HCell3.out k _ hn).d)
        have QM := Lib.hid (hmq ▸ (HCell3.out k _ hn).m)
        clear qd qm
        obtain ⟨Ad, cd, _, _, e1, _, _, _, _⟩ := id QD.out
        obtain ⟨Am, cm, _, _, e2, _, _, _, _⟩ := id QM.out
        have bb := World.block_lt_of_cell? _ _ q0
        simp only at bb
        clear hn hdq hmq
        subst e1 e2
        obtain ⟨W1, hW1⟩ : ∃ W1, wo.alloc (.cells #[.string word, .slice Ad ds.length cd, .slice Am ms.length cm] 71) = W1 := ⟨_, rfl⟩
        obtain ⟨nt, hnt⟩ : ∃ nt, wo.heap.size = nt := ⟨_, rfl⟩
        have HB1 := Lib.hid (show Below w.heap.size w W1 from hW1 ▸ HB.out.alloc HB.out.size _)
        have HT1 := Lib.hid (show CB W1 nt 71 #[.string word, .slice Ad ds.length cd, .slice Am ms.length cm] by rw [← hW1, ← hnt]; exact CB.new wo _ _)
        have HX1 := Lib.hid (HX.out.alloc (.cells #[.string word, .slice Ad ds.length cd, .slice Am ms.length cm] 71))
        rw [hW1] at HX1
        have HW1 := Lib.hid hW1
        have HNt := Lib.hid hnt
        clear HX hW1 hnt
        go_wp2_with (go_at_call 29; rw [HW1.out, HNt.out]; go_must (refine (words_any word _ hwz).mono ?_); rintro e w1 ⟨v, rfl, ho, hb⟩; obtain ⟨Aw, cw, bw, ow, rfl, hlw, hcw, hAw, hcellw⟩ := ho; have HOW := Lib.hid (And.intro hlw (And.intro hcw (And.intro hAw hcellw))); clear hlw hcw hAw hcellw; have HB2 := Lib.hid (HB1.out.trans (hb.mono HB1.out.size)); have HT2 := Lib.hid (HT1.out.below hb); have HX2 := Lib.hid (HX1.out.below hb); clear hb)
        clear q0 q1 q2 bb HB1 HT1 HX1 HW1
        obtain ⟨hlw, hcw, hAw, hcellw⟩ := HOW.out
        clear HOW
        have hsl : (strCells (wordsAux word.data.toList [])).length = (wordsAux word.data.toList []).length := by simp [strCells]
        rw [hsl] at hlw
        rw [hsl]
        unfold maxLen at hcw
        have t0 := HT2.out.c 0
        have t1 := HT2.out.c 1
        have t2 := HT2.out.c 2
        have tsh := HT2.out.sh
        have bx0 := HX2.out.c 0
        have bx2 := HX2.out.c 2
        have bsh := HX2.out.sh
        by_cases hl : (wordsAux word.data.toList []).length = 1
        · obtain ⟨s, hs⟩ : ∃ s, wordsAux word.data.toList [] = [s] := List.length_eq_one_iff.1 hl
          rw [hs]
          rw [hs] at hcellw hAw hlw
          have hAw' := hAw (by simp [strCells])
          subst hAw'
          obtain ⟨xs, hxs⟩ : ∃ xs : ByteArray, (⟨s.toArray⟩ : ByteArray) = xs := ⟨_, rfl⟩
          have r0 := hcellw 0 (.string xs) (by simp [strCells, hxs])
          rw [Nat.add_zero] at r0
          have HS := Lib.hid hs
          have HXs := Lib.hid hxs
          clear hs hxs hcellw hAw hl hsl
          simp only [List.length_cons, List.length_nil] at hlw ⊢
          have hneq : ∀ W : World, Sem.run Tryz.prog (binOp BinOp.neq 9 (Value.string xs) (Value.string word)) W = Result.ok (Value.bool (!(xs.toList == word.toList))) W := fun W => rfl
          cases hq : (xs.toList == word.toList)
          · have H2 := Lib.hid (idxE_terms HF.out (HE.out.trans (firstE_bad hlt (H1.out.trans (if_pos (oneWord_one (v := false) HS.out (by rw [HXs.out]; exact hq)))) (by decide))) (by decide))
            rw [hq] at hneq
            go_quiet (fail)
            go_wp2_with fail
            go_ret
            exact ⟨ret_int H2.out.symm, Below.drewN' HB2.out _⟩
          have H2 := Lib.hid (H1.out.trans (if_neg (by rw [oneWord_one (v := true) HS.out (by rw [HXs.out]; exact hq)]; simp)))
          rw [hq] at hneq
          go_quiet (fail)
          go_wp2_with fail
          clear r0 hneq hq t0 t1 t2 tsh bx0 bx2 bsh
          obtain ⟨w2, hw2⟩ : ∃ w2, w1.drewN nq = w2 := ⟨_, rfl⟩
          have HB3 := Lib.hid (show Below w.heap.size w w2 from hw2 ▸ Below.drewN' HB2.out _)
          have HT3 := Lib.hid (show CB w2 nt 71 #[.string word, .slice Ad ds.length cd, .slice Am ms.length cm] by rw [← hw2]; exact HT2.out)
          have HX3 := Lib.hid (show CB w2 nb 33 _ by rw [← hw2]; exact HX2.out)
          rw [hw2]
          clear hw2 HB2 HT2 HX2 hlw hcw
          have t0 := HT3.out.c 0
          have t1 := HT3.out.c 1
          have t2 := HT3.out.c 2
          have tsh := HT3.out.sh
          have bx0 := HX3.out.c 0
          have bx2 := HX3.out.c 2
          have bsh := HX3.out.sh
          rcases Nat.eq_zero_or_pos k with hk0 | hk0
          have hk3 : ¬ (0 : Int) < k := by omega
          have hk4 : decide (0 < k) = false := by simp; omega
          have H3 := Lib.hid (H2.out.trans (if_neg (by rw [hk0]; simp [termPrev])))
          clear H2
          have HK0 := Lib.hid hk0
          clear hk0
          go_quiet (fail)
          go_wp2_with fail
          clear hk3 hk4
          rotate_left
          obtain ⟨j, hj⟩ : ∃ j, k = j + 1 := ⟨k - 1, by omega⟩
          obtain ⟨⟨pw, pd, pm⟩, hpn⟩ : ∃ n, T[j]? = some n := ⟨_, List.getElem?_eq_getElem (by omega)⟩
          obtain ⟨z0, z1, z2, _, _⟩ := (HCell3.out j _ hpn).keep (Keeps.of_below HB3.out)
          simp only at z0 z1 z2
          have HPB := Lib.hid (show termPrev T word k = lsB word pw by rw [hj]; exact termPrev_succ (x := word) hpn); clear hpn
          have hwr : IntKind.i64.wrap ((k : Int) - 1) = (j : Int) := by rw [show (k : Int) - 1 = (j : Int) by omega]; rw [IntKind.wrap_i64]; omega
          have hjl : j < T.length := by omega
          have hk3 : (0 : Int) < k := by omega
          have hk4 : decide (0 < k) = true := by simp; omega
          have HJ := Lib.hid hj; clear hj
          have bb2 := World.block_lt_of_cell? _ _ z0
          simp only at bb2
          have hleq : ∀ W : World, Sem.run Tryz.prog (binOp BinOp.leq 9 (Value.string word) (Value.string pw)) W = Result.ok (Value.bool (lsB word pw)) W := fun W => rfl
          have HK0 := Lib.hid hk0
          clear hk0
          cases hls : lsB word pw
          have H3 := Lib.hid (H2.out.trans (if_neg (by rw [HPB.out, hls]; simp)))
          clear H2
          rw [hls] at hleq
          go_quiet (fail)
          go_wp2_with fail
          clear z0 z1 z2 bb2 hleq hwr hk3 hk4
          rotate_left
          have H4 := Lib.hid (idxE_terms HF.out (HE.out.trans (firstE_bad hlt (H2.out.trans (if_pos (by rw [HPB.out, hls]))) (by decide))) (by decide))
          clear H2
          rw [hls] at hleq
          go_quiet (fail)
          go_wp2_with fail
          go_ret
          exact ⟨ret_int H4.out.symm, Below.drewN' HB3.out _⟩
          all_goals
            (obtain ⟨w3, hw3⟩ : ∃ w3, w2.drewN nq = w3 := ⟨_, rfl⟩
             have HB4 := Lib.hid (show Below w.heap.size w w3 from hw3 ▸ Below.drewN' HB3.out _)
             have HT4 := Lib.hid (show CB w3 nt 71 #[.string word, .slice Ad ds.length cd, .slice Am ms.length cm] by rw [← hw3]; exact HT3.out)
             have HX4 := Lib.hid (show CB w3 nb 33 _ by rw [← hw3]; exact HX3.out)
             rw [hw3]
             clear hw3 HB3 HT3 HX3 t0 t1 t2 tsh bx0 bx2 bsh
             have t0 := HT4.out.c 0
             have t1 := HT4.out.c 1
             have t2 := HT4.out.c 2
             have tsh := HT4.out.sh
             have bx0 := HX4.out.c 0
             have bsh := HX4.out.sh
             obtain ⟨te, hte⟩ : ∃ te, termE D.length ⟨word, ds, ms⟩ = te := ⟨_, rfl⟩
             have hcall := termFault_q word ds ms _ _ D.length w3 (QD.out.keep (Keeps.of_below HB4.out)) (QM.out.keep (Keeps.of_below HB4.out))
             rw [hte] at hcall
             have HTe := Lib.hid hte
             clear hte
             by_cases hz : te = 0
             · subst hz
               go_wp2_with (go_at_call 55; go_must (refine hcall.mono ?_); rintro e w4 ⟨rfl, hb4⟩; have HB5 := Lib.hid (HB4.out.trans (hb4.mono HB4.out.size)); have HX5 := Lib.hid (HX4.out.below hb4); clear hb4)
               go_roundw
               case rel => exact ⟨k + 1, by omega, by go_num, HB5.out, HX5.out, HE.out.trans (firstE_ok hlt (H3.out.trans HTe.out))⟩
               case measure => simp [intOf]; omega
             · have H5 := Lib.hid (idxE_terms HF.out (HE.out.trans (firstE_bad hlt (H3.out.trans HTe.out) hz)) hz)
               go_wp2_with (go_at_call 55; go_must (refine hcall.mono ?_); rintro e w4 ⟨rfl, hb4⟩; have HB5 := Lib.hid (HB4.out.trans (hb4.mono HB4.out.size)); clear hb4)
               go_ret
               exact ⟨ret_int H5.out.symm, HB5.out⟩)
        · have e2 : (((wordsAux word.data.toList []).length : Int) != 1) = true := by simp; omega
          have H2 := Lib.hid (idxE_terms HF.out (HE.out.trans (firstE_bad hlt (H1.out.trans (if_pos (oneWord_len hl))) (by decide))) (by decide))
          obtain ⟨wl, hwl⟩ : ∃ wl, (wordsAux word.data.toList []).length = wl := ⟨_, rfl⟩
          rw [hwl] at e2 hlw hl
          try rw [hwl]
          clear hsl hcellw hAw hwl
          have hl := Lib.hid hl
          go_quiet (fail)
          go_wp2_with fail
          go_ret
          exact ⟨ret_int H2.out.symm, Below.drewN' HB2.out _⟩
      · have H1 := Lib.hid (show termsE D.length T = 0 from HE.out.trans (firstE_end (by omega)))
        have H2 := Lib.hid (idxE_text HF.out H1.out)
        have bx0 := HX.out.c 0
        have bx1 := HX.out.c 1
        have bx2 := HX.out.c 2
        have bsh := HX.out.sh
        have hcall := indexText_q D S T _ _ _ wo (HI.out.keep (Keeps.of_below HB.out)) (Nat.le_of_eq (front_sizes HF.out).1.symm) (terms_eq H1.out) HLen.out (HTab.out.keep HB.out)
        have hsz : (⟨(idxT D S T).toArray⟩ : ByteArray).size = (idxT D S T).length := by rw [← size_toList]
        obtain ⟨tx, htx⟩ : ∃ tx : ByteArray, (⟨(idxT D S T).toArray⟩ : ByteArray) = tx := ⟨_, rfl⟩
        rw [htx] at hcall hsz
        rw [← hsz] at H2
        clear hsz htx H1
        by_cases hbig : 400000 < tx.size
        · have H3 := Lib.hid (H2.out.trans (if_pos hbig))
          go_wp2_with (go_at_call 56; go_must (refine hcall.mono ?_); rintro e w4 ⟨rfl, hb4⟩; have HB5 := Lib.hid (HB.out.trans (hb4.mono HB.out.size)); clear hb4)
          go_ret
          exact ⟨ret_int H3.out.symm, HB5.out⟩
        · have H3 := Lib.hid (H2.out.trans (if_neg hbig))
          go_wp2_with (go_at_call 56; go_must (refine hcall.mono ?_); rintro e w4 ⟨rfl, hb4⟩; have HB5 := Lib.hid (HB.out.trans (hb4.mono HB.out.size)); clear hb4)
          go_ret
          exact ⟨ret_int H3.out.symm, HB5.out⟩
  · have H1 := Lib.hid (idxE_front (T := T) hfe hf)
    clear hfe
    go_wp2_with fail
    go_ret
    exact ⟨ret_int H1.out.symm, HB1.out⟩

end Go.Proofs.YtjcegmbfipjdcaaGreatDoor
