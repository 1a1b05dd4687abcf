/-
  mastref1.IndexOf.
-/
import Derived.Test.YtmcelgokchhpfaaGreatDoorNixRef2
import Derived.Test.YtmcelgokchhpfaaGreatDoorIdxBytes
import Derived.Test.YtmcelgokchhpfaaGreatDoorWords
import Derived.Test.YtmcelgokchhpfaaGreatDoorRowSwap
import Derived.BigQuiet
import Derived.StillTailTactics
import Derived.Deep.QuietTactic
import Derived.RegionTactic
namespace Go.Proofs.YtmcelgokchhpfaaGreatDoor
open Go.RowKit Go.ChangeShapes Go.WideShapes Go.Deep

theorem refStem_v (x s : List UInt8) (w : World) (hx : x.length ≤ 1048576) (hs : stemL x = s) : Calls Tryz.prog 16 #[.string (str0 x)] w fun e w' => e = .returned (.string (str0 s)) ∧ Below w.heap.size w w' := by
  subst hs
  exact stemOf_any (str0 x) w (by rw [← size_toList]; exact hx)
theorem stem_take {TW TS : List (List UInt8)} {j : Nat} {x s : List UInt8} (h : TW.map stemL = TS) (hx : TW[j]? = some x) (hs : stemL x = s) : TS.take (j + 1) = TS.take j ++ [s] := by
  have h9 : TS[j]? = some s := by rw [← h, List.getElem?_map, hx, ← hs]; rfl
  obtain ⟨h1, h2⟩ := List.getElem?_eq_some_iff.1 h9
  rw [List.take_succ_eq_append_getElem h1, h2]
theorem cnt_step {M : List (List UInt8)} (hs : M.Pairwise (· ≤ ·)) {i : Nat} {x : List UInt8} (h : M[i]? = some x) :
    ∃ (C6 : List Int) (j : Nat) (c : Int), C6.length = (onceL M (i + 1)).length ∧ j + 1 = C6.length ∧ C6[j]? = some c ∧ 0 ≤ c ∧ c ≤ (i : Int) ∧ cntL M (i + 1) = C6.set j (c + 1) ∧
      ((i = 0 ∨ M[i - 1]? ≠ some x) → C6 = cntL M i ++ [0] ∧ onceL M (i + 1) = onceL M i ++ [x]) ∧ (¬ (i = 0 ∨ M[i - 1]? ≠ some x) → C6 = cntL M i ∧ onceL M (i + 1) = onceL M i) := by
  by_cases hn : i = 0 ∨ M[i - 1]? ≠ some x
  · refine ⟨cntL M i ++ [0], (cntL M i).length, 0, by rw [once_yes h hn, List.length_append, List.length_append, cntL_len]; rfl, by simp, by simp, Int.le_refl _, by omega, ?_, fun _ => ⟨rfl, once_yes h hn⟩, fun h2 => absurd hn h2⟩
    rw [cnt_yes hs h hn, List.set_append_right _ _ (Nat.le_refl _), Nat.sub_self]
    simp
  · have h0 : i ≠ 0 := fun e => hn (Or.inl e)
    have h1 : M[i - 1]? = some x := by
      by_cases e : M[i - 1]? = some x
      · exact e
      · exact absurd (Or.inr e) hn
    obtain ⟨j, c, q1, q2, q3, q4, q5⟩ := cnt_no hs h h0 h1
    exact ⟨cntL M i, j, c, by rw [once_no h h0 h1, cntL_len], q1, q2, q3, q4, q5, fun h2 => absurd h2 hn, fun _ => ⟨rfl, once_no h h0 h1⟩⟩
theorem grown_thenAlloc {a b : World} {r : Option Nat} (h : a.grownBy b r) (o : Obj) : a.grownBy (b.alloc o) r :=
  ⟨h.os, h.tape, h.output, by rw [World.size_alloc]; have := h.size; omega, fun k hk hne => ((World.grownBy_alloc b o r).block k (Nat.lt_of_lt_of_le hk h.size) hne).trans (h.block k hk hne)⟩
theorem info_slS : (Tryz.prog.info? 38).map (fun i => (i.zero, i.size, i.bytes)) = some (some (.slice none 0 0), 1, 24) := by kernel_rfl
theorem info_slI : (Tryz.prog.info? 23).map (fun i => (i.zero, i.size, i.bytes)) = some (some (.slice none 0 0), 1, 24) := by kernel_rfl
theorem one_sl (A : Option Addr) (n c : Nat) : ∀ u ∈ [Value.slice A n c], u.oneCell' = true := by intro u hu; simp only [List.mem_singleton] at hu; subst hu; rfl

set_option maxRecDepth 100000 in
set_option maxHeartbeats 4000000 in
theorem indexOf_q (D : List DocR) (dv : Value) (w : World) (h : DocsAt w dv D) (hz : ∀ d ∈ D, d.addr.size ≤ 1048576 ∧ d.title.size ≤ 1048576 ∧ d.text.size ≤ 1048576) (hm : MaxAt w) (htab : TabOk w) (hw : nixW D ≤ 1048576) :
    Calls Tryz.prog 5 #[dv] w (NixPost w.heap.size D w) := by
  have HDs := Lib.hid h
  obtain ⟨A, c, b, o, rfl, hlc, hc, hA, hcell⟩ := h
  unfold maxLen at hc
  have HCell := Lib.hid hcell; clear hcell
  have HM := Lib.hid hm; clear hm
  have HZ := Lib.hid hz; clear hz
  have HTb := Lib.hid htab; clear htab
  obtain ⟨N, hN⟩ : ∃ N, w.heap.size = N := ⟨_, rfl⟩
  rw [hN]
  obtain ⟨W0, hW0⟩ : ∃ W0, w.alloc (.cells #[.slice none 0 0, .slice none 0 0, .slice none 0 0] 26) = W0 := ⟨_, rfl⟩
  have HX0 := Lib.hid (show CB W0 N 26 #[.slice none 0 0, .slice none 0 0, .slice none 0 0] by rw [← hW0, ← hN]; exact CB.new w _ _)
  have HB0 := Lib.hid (show Below N w W0 by rw [← hW0]; exact (Below.refl _ _).alloc (by omega) _)
  have hB0w : Below w.heap.size w W0 := by rw [hN]; exact HB0.out
  have HDe := Lib.hid (docsErrT_q D _ W0 (HDs.out.keep (Keeps.of_below hB0w)) HZ.out (HM.out.keep (Keeps.of_below hB0w)))
  clear hB0w
  have HW0 := Lib.hid hW0; clear hW0
  obtain ⟨fe, hfe⟩ : ∃ fe, docsFE D = fe := ⟨_, rfl⟩
  rw [hfe] at HDe
  have HNw := Lib.hid hN
  by_cases hf0 : fe = 0
  · subst hf0
    have H0 := Lib.hid hfe
    clear hfe
    have hL := docsFE_len H0.out
    have HF2 := Lib.hid (show 2 * sumBy fwN D ≤ 1048576 from Nat.le_trans (fwN_sum D) hw)
    have HW := Lib.hid hw; clear hw
    have HAll := Lib.hid (docsFE_all H0.out)
    have HA := Lib.hid hA; clear hA
    have hc2 : (0 : Int) ≤ (D.length : Int) := by omega
    go_enter Tryz.func5, Tryz.ntmps5
    obtain ⟨i0, hi0, hz0, hz1, hz2⟩ := info_parts info_slI
    have HI0p := Lib.hid hi0; have HZ0p := Lib.hid hz0; have HZ1p := Lib.hid hz1; have HZ2p := Lib.hid hz2
    clear hi0 hz0 hz1 hz2
    go_wp2_with (first | (go_at_call 14; rw [HW0.out]; go_must (refine HDe.out.mono ?_); rintro e w1 ⟨rfl, hb1⟩; have HX1 := Lib.hid (HX0.out.below hb1); have HB1 := Lib.hid (HB0.out.trans (hb1.mono (Nat.le_of_lt HX0.out.lt))); clear hb1) | (at_make; go_must (refine wpList_make_own _ rfl (.const (.int .i64 0)) (.tmp 35) 49 rfl N 23 i0 (.slice none 0 0) 1 Tryz.underlying49 HI0p.out HZ0p.out HZ1p.out .i64 .i64 (D.length : Int) D.length rfl rfl rfl (by rw [HZ2p.out]; omega) (by unfold maxLen; omega) (by have := HX1.out.lt; simp; omega) ?_); intro w2 own2 hg2))
    obtain ⟨X, hXe⟩ : ∃ X, w1.heap.size = X := ⟨_, rfl⟩
    have hNX : N < X := by rw [← hXe]; exact HX1.out.lt
    have hb2 : Below w1.heap.size w1 w2 := ((Below.refl _ _).alloc (Nat.le_refl _) _).grown hg2 (by simp) (fun g hg => by cases hg)
    have HI0 := Lib.hid (show RefIn w2 N X D 0 (.slice none 0 0) (.slice none 0 0) (.slice none 0 0) (.slice none 0 0) (.slice (some ⟨X + 1, 0, none⟩) 0 D.length) [] [] [] (fun _ => .slice none 0 0) (fun _ => .slice none 0 0) from
      ⟨HX1.out.below hb2, by rw [← hXe]; exact CB.other (CB.new w1 _ _) hg2 (by simp), hNX, World.ownsRow_nil _ _ _ _, World.ownsRow_nil _ _ _ _, World.ownsRow_nil _ _ _ _, World.ownsRow_nil _ _ _ _, by rw [← hXe]; simpa using own2, fun i hi => absurd hi (by omega), fun i hi => absurd hi (by omega), fun i hi => absurd hi (by omega), fun i hi => absurd hi (by omega)⟩)
    have HB0b := Lib.hid (HB1.out.trans (hb2.mono (by rw [hXe]; omega)))
    clear HB0 HX0 hb2 own2 hg2 HDe
    have HXe := Lib.hid hXe
    try rw [hXe]
    have HB0 := HB0b
    clear hXe HB0b
    go_loopw [6, 7, 8, 39] (fun t6 t7 t8 t39 wr => ∃ (k : Nat) (dvv sv : Value) (nv cv : Nat → Value), k ≤ D.length ∧ t39 = .int .i64 k ∧ Hid (RefIn wr N X D k dvv sv t6 t8 t7 (nixD (D.take k)) (nixS (D.take k)) (allW (D.take k)) nv cv) ∧ Hid (Below N w wr)) (fun _ _ _ t _ => D.length - (intOf t).toNat)
    case atStart => exact ⟨0, _, _, fun _ => .slice none 0 0, fun _ => .slice none 0 0, Nat.zero_le _, rfl, HI0.out, HB0.out⟩
    case round =>
      clear HI0 HB0
      obtain ⟨k, dvv, sv, nv, cv, hk, rfl, HI, HB⟩ := hrel
      obtain ⟨wp, rfl⟩ : ∃ wp : World, wp = wr := ⟨_, rfl⟩
      by_cases hlt : k < D.length
      · have hA' := HA.out (by rintro rfl; simp at hlt)
        subst hA'
        obtain ⟨⟨addr, title, text⟩, hn⟩ : ∃ n, D[k]? = some n := ⟨_, List.getElem?_eq_getElem hlt⟩
        obtain ⟨hza, hzt, hzx⟩ := HZ.out _ (List.mem_of_getElem? hn)
        have hall := HAll.out _ (List.mem_of_getElem? hn)
        simp only at hza hzt hzx hall
        have HDk := Lib.hid (show nixD (D.take (k + 1)) = nixD (D.take k) ++ [⟨addr, title, ⟨#[]⟩⟩] by obtain ⟨h1, h2⟩ := List.getElem?_eq_some_iff.1 hn; rw [nixD, List.take_succ_eq_append_getElem h1, List.map_append, h2]; rfl)
        have HSk := Lib.hid (show nixS (D.take (k + 1)) = nixS (D.take k) ++ [(((wordsAux title.data.toList []).length + (wordsAux text.data.toList []).length : Nat) : Int)] by obtain ⟨h1, h2⟩ := List.getElem?_eq_some_iff.1 hn; rw [nixS, List.take_succ_eq_append_getElem h1, List.map_append, h2]; rfl)
        have HAk := Lib.hid (allW_take (D := D) hlt)
        have HAl := Lib.hid (show (allW (D.take k)).length ≤ 1048576 from Nat.le_trans (allW_len _) (Nat.le_trans (sumBy_take_le fwN D k) (by have := HF2.out; omega)))
        have HNl := Lib.hid (show (nmL D k).length ≤ 1048576 from Nat.le_trans (nmL_len D k) HW.out)
        have hdl : (nixD (D.take k)).length = k := by simp [nixD]; omega
        have hsl : (nixS (D.take k)).length = k := by simp [nixS]; omega
        obtain ⟨ds, hds⟩ : ∃ x, nixD (D.take k) = x := ⟨_, rfl⟩
        obtain ⟨ss, hss⟩ : ∃ x, nixS (D.take k) = x := ⟨_, rfl⟩
        obtain ⟨tl, htl⟩ : ∃ x, allW (D.take k) = x := ⟨_, rfl⟩
        rw [hds] at HI hdl HDk
        rw [hss] at HI hsl HSk
        rw [htl] at HI HAk HAl
        have hdle : ds.length ≤ 120 := by omega
        have hsle : ss.length ≤ 120 := by omega
        clear hds hss hdl hsl htl
        obtain ⟨TW, hTW⟩ : ∃ x, wordsAux title.data.toList [] = x := ⟨_, rfl⟩
        obtain ⟨XW, hXW⟩ : ∃ x, wordsAux text.data.toList [] = x := ⟨_, rfl⟩
        have hTl : TW.length ≤ title.size + 1 := by have := words_many title.data.toList []; rw [hTW, size_toList] at this; exact this
        have hXl : XW.length ≤ text.size + 1 := by have := words_many text.data.toList []; rw [hXW, size_toList] at this; exact this
        have HT30 := Lib.hid (show ∀ x ∈ TW ++ XW, x.length ≤ 30 from fun x hx => by
          rcases List.mem_append.1 hx with h | h
          · exact word_le _ _ x (by rw [hTW]; exact h)
          · exact word_le _ _ x (by rw [hXW]; exact h))
        have HNm := Lib.hid (show nmL D k = namesL (ownL (TW.map stemL) (XW.map stemL)) by rw [nmL_at hn, twL, bwL, hTW, hXW])
        have HCt := Lib.hid (show ctL D k = cntL (srt (ownL (TW.map stemL) (XW.map stemL))) (srt (ownL (TW.map stemL) (XW.map stemL))).length by rw [ctL_at hn, twL, bwL, hTW, hXW])
        rw [hTW, hXW] at HSk
        have HBw := Lib.hid (show Below w.heap.size w wp by rw [HNw.out]; exact HB.out)
        obtain ⟨p0, p1, p2⟩ := (HCell.out k _ hn).keep (Keeps.of_below HBw.out)
        simp only at p0 p1 p2
        have bb := World.block_lt_of_cell? _ _ p0
        simp only at bb
        have HN := Lib.hid hn; clear hn
        obtain ⟨A1, c1, rfl, hc1, _, _⟩ := own_form HI.out.hd
        obtain ⟨A2, c2, rfl, hc2, _, _⟩ := own_form HI.out.hs
        obtain ⟨A3, c3, rfl, hc3, _, _⟩ := own_form HI.out.ht
        obtain ⟨A4, c4, rfl, hc4, _, _⟩ := own_form HI.out.hst
        obtain ⟨A5, c5, rfl, hc5, _, _⟩ := own_form HI.out.hmn
        have hXN : N < X := HI.out.hNX
        have hXlt : X < wp.heap.size := HI.out.hx.lt
        go_upto_region 11 with fail
        obtain ⟨W1, hW1⟩ : ∃ W1, wp.alloc (.cells #[.string addr, .string title, .string text] 33) = W1 := ⟨_, rfl⟩
        obtain ⟨nd, hnd⟩ : ∃ nd, wp.heap.size = nd := ⟨_, rfl⟩
        have HI1 := Lib.hid (HI.out.below ((Below.refl _ _).alloc (Nat.le_refl _) (.cells #[.string addr, .string title, .string text] 33)))
        have HB1 := Lib.hid (show Below N w (wp.alloc (.cells #[.string addr, .string title, .string text] 33)) from HB.out.alloc (by omega) _)
        have HD1 := Lib.hid (CB.new wp #[.string addr, .string title, .string text] 33)
        rw [hW1] at HI1 HB1 HD1
        rw [hnd] at HD1 hXlt
        rw [hW1, hnd]
        clear hW1 hnd HI HB HBw p0 p1 p2 bb
        have d0 : W1.cell? ⟨nd, 0, none⟩ = some (.string addr) := HD1.out.c 0
        have d1 : W1.cell? ⟨nd, 1, none⟩ = some (.string title) := HD1.out.c 1
        have d2 : W1.cell? ⟨nd, 2, none⟩ = some (.string text) := HD1.out.c 2
        have hTW2 := Lib.hid hTW
        have hXW2 := Lib.hid hXW
        clear hTW hXW
        go_cut [11, 12] from 40 to 144 (fun s11 s12 wx => ∃ (At : Option Addr) (ct : Nat) (Ax : Option Addr) (cx : Nat), s11 = .slice At TW.length ct ∧ s12 = .slice Ax XW.length cx ∧ ct ≤ maxLen ∧ cx ≤ maxLen ∧ Hid (wx.ownsRow N 9 1 (.slice At TW.length ct) TW.length (strCells TW)) ∧ Hid (wx.ownsRow N 9 1 (.slice Ax XW.length cx) XW.length (strCells XW)) ∧ Hid (RefIn wx N X D k (.slice A1 ds.length c1) (.slice A2 ss.length c2) (.slice A3 tl.length c3) (.slice A4 k c4) (.slice A5 k c5) ds ss tl nv cv) ∧ Hid (CB wx nd 33 #[.string addr, .string title, .string text]) ∧ Hid (Below N w wx))
        case first =>
          go_region_law (first
            | (go_simp
               go_at_call 15
               have hk2 := HO2
               go_must (refine (wordsIn_own text _ hzx).mono ?_)
               rintro e w3 ⟨v3, rfl, ho3, hb3⟩
               rw [hXW2.out] at ho3
               have HO3 := Lib.hid (own_base ho3 HS2.out)
               have HO23 := Lib.hid (own_rowT HO2.out (grown_none hb3) (RowT.none _ _))
               have HI3 := Lib.hid (HI2.out.below hb3)
               have HD3 := Lib.hid (HD2.out.below hb3)
               have HB3 := Lib.hid (HB2.out.trans (hb3.mono HS2.out))
               clear ho3 hb3)
            | (go_simp
               go_at_call 15
               go_must (refine (wordsIn_own title _ hzt).mono ?_)
               rintro e w2 ⟨v2, rfl, ho2, hb2⟩
               rw [hTW2.out] at ho2
               have HB2 := Lib.hid (Below.trans (by first | exact HB1.out | exact Below.drewN' HB1.out _ | exact HB1.out.drew) (hb2.mono (Nat.le_of_lt HI1.out.hr.lt)))
               have HI2 := Lib.hid (RefIn.below (by first | exact HI1.out | exact HI1.out.below (Below.drewN' (Below.refl _ _) _) | exact HI1.out.below ((Below.refl _ _).drew)) hb2)
               have HD2 := Lib.hid (CB.below (by first | exact HD1.out | exact HD1.out.drewN _ | exact HD1.out.drew) hb2)
               have HO2 := Lib.hid (own_base ho2 (show N ≤ _ from Nat.le_of_lt HI1.out.hr.lt))
               have HS2 := Lib.hid (show N ≤ w2.heap.size from Nat.le_of_lt HI2.out.hr.lt)
               clear ho2 hb2
               have d2' : w2.cell? ⟨nd, 2, none⟩ = some (.string text) := HD2.out.c 2))
          all_goals
            (try go_wp2_with fail)
            go_meet
            obtain ⟨At, ct, rfl, hct, _, _⟩ := own_form HO2.out
            obtain ⟨Ax, cx, rfl, hcx, _, _⟩ := own_form HO3.out
            exact ⟨At, ct, Ax, cx, rfl, rfl, hct, hcx, HO23.out, HO3.out, HI3.out, HD3.out, HB3.out⟩
        case rest =>
          obtain ⟨At, ct, Ax, cx, rfl, rfl, hct, hcx, HOt, HOx, HI, HD, HB⟩ := hcut
          obtain ⟨wq, rfl⟩ : ∃ x : World, x = wc := ⟨_, rfl⟩
          clear d0 d1 d2 HI1 HB1 HD1
          have d0 : wq.cell? ⟨nd, 0, none⟩ = some (.string addr) := HD.out.c 0
          have d1 : wq.cell? ⟨nd, 1, none⟩ = some (.string title) := HD.out.c 1
          have x0 : wq.cell? ⟨X, 0, none⟩ = some (.slice A1 ds.length c1) := HI.out.hx.c 0
          have x0f := HI.out.hx.f 0
          have hXw : X < wq.heap.size := HI.out.hx.lt
          have hNw : N ≤ wq.heap.size := Nat.le_of_lt HI.out.hr.lt
          go_upto_region 13 with (at_builtin; go_must (refine wpList_push _ rfl (.tmp 50) (.tmp 56) 22 rfl N 33 _ 3 48 Tryz.underlying22 info_doc rfl (by omega) (.slice A1 ds.length c1) ds.length _ rfl (own_alloc HI.out.hd _) [.string addr, .string title, .string ⟨#[]⟩] rfl _ rfl (cell_new _ [.string addr, .string title, .string ⟨#[]⟩] 33 _ rfl) (by intro u hu; simp at hu; rcases hu with rfl | rfl | rfl <;> rfl) (by omega) (by unfold maxLen; omega) (by simp; omega) ?_); intro g5 k5 w5 own5 hg5 hgg5 hb5; have HXb := Lib.hid (CB.push ((HI.out.below ((Below.refl _ _).alloc (Nat.le_refl _) (.cells #[.string addr, .string title, .string ⟨#[]⟩] 33))).hx) (own_alloc HI.out.hd _) (by decide) hg5); have u0 : w5.cell? ⟨X, 0, none⟩ = some (.slice A1 ds.length c1) := HXb.out.c 0; have u0f := HXb.out.f 0; have u0s := HXb.out.sh)
          have HIa := Lib.hid (RefIn.pushD (HI.out.below ((Below.refl _ _).alloc (Nat.le_refl _) (.cells #[.string addr, .string title, .string ⟨#[]⟩] 33))) ⟨addr, title, ⟨#[]⟩⟩ hg5 own5)
          have HOta := Lib.hid (own_rowT (own_rowT (own_alloc HOt.out (.cells #[.string addr, .string title, .string ⟨#[]⟩] 33)) hg5 (RowT.own (own_alloc HI.out.hd _) (by decide))) (grown_setB w5 X 0 (.slice (some ⟨g5, 0, none⟩) (ds.length + 1) k5)) (RowT.cb HXb.out (by decide)))
          have HOxa := Lib.hid (own_rowT (own_rowT (own_alloc HOx.out (.cells #[.string addr, .string title, .string ⟨#[]⟩] 33)) hg5 (RowT.own (own_alloc HI.out.hd _) (by decide))) (grown_setB w5 X 0 (.slice (some ⟨g5, 0, none⟩) (ds.length + 1) k5)) (RowT.cb HXb.out (by decide)))
          have HBa := Lib.hid (show Below N w (w5.setCell ⟨X, 0, none⟩ (.slice (some ⟨g5, 0, none⟩) (ds.length + 1) k5)) from ((HB.out.alloc hNw _).trans hb5).setCell (p := ⟨X, 0, none⟩) (show N ≤ X by omega) _)
          clear HXb u0 u0f u0s own5 hg5 hgg5 hb5 HI HB HOt HOx HD d0 d1 x0 x0f hXw hNw
          obtain ⟨w6, hw6⟩ : ∃ x, w5.setCell ⟨X, 0, none⟩ (.slice (some ⟨g5, 0, none⟩) (ds.length + 1) k5) = x := ⟨_, rfl⟩
          rw [hw6] at HIa HOta HOxa HBa
          rw [hw6]
          clear hw6
          obtain ⟨ds2, hds2⟩ : ∃ x, ds ++ [⟨addr, title, ⟨#[]⟩⟩] = x := ⟨_, rfl⟩
          rw [hds2] at HIa HDk
          clear hds2
          have x1 : w6.cell? ⟨X, 1, none⟩ = some (.slice A2 ss.length c2) := HIa.out.hx.c 1
          have x1f := HIa.out.hx.f 1
          have hXw : X < w6.heap.size := HIa.out.hx.lt
          have hNw : N ≤ w6.heap.size := Nat.le_of_lt HIa.out.hr.lt
          obtain ⟨sz, hsz⟩ : ∃ x : Int, ((TW.length : Int) + (XW.length : Int)) = x := ⟨_, rfl⟩
          have hszw : IntKind.i64.wrap sz = sz := by rw [IntKind.wrap_i64]; omega
          go_upto_region 14 with (at_builtin; go_must (refine wpList_push _ rfl (.tmp 60) (.tmp 66) 23 rfl N 3 _ 1 8 Tryz.underlying23 info_intR rfl (by omega) (.slice A2 ss.length c2) ss.length _ rfl (own_alloc HIa.out.hs _) [.int .i64 sz] rfl _ rfl (cell_new _ [.int .i64 sz] 3 _ rfl) (one_int _ _) (by omega) (by unfold maxLen; omega) (by simp; omega) ?_); intro g7 k7 w7 own7 hg7 hgg7 hb7; have HXb := Lib.hid (CB.push ((HIa.out.below ((Below.refl _ _).alloc (Nat.le_refl _) (.cells #[.int .i64 sz] 3))).hx) (own_alloc HIa.out.hs _) (by decide) hg7); have u1 : w7.cell? ⟨X, 1, none⟩ = some (.slice A2 ss.length c2) := HXb.out.c 1; have u1f := HXb.out.f 1; have u1s := HXb.out.sh)
          have HIb := Lib.hid (RefIn.pushS (sv' := .slice (some ⟨g7, 0, none⟩) (ss.length + 1) k7) (HIa.out.below ((Below.refl _ _).alloc (Nat.le_refl _) (.cells #[.int .i64 sz] 3))) sz hg7 own7 (fun b hb => by
            simp only [Value.ownBlock, Option.some.injEq] at hb
            subst hb
            exact hgg7))
          have HOtb := Lib.hid (own_rowT (own_rowT (own_alloc HOta.out (.cells #[.int .i64 sz] 3)) hg7 (RowT.own (own_alloc HIa.out.hs _) (by decide))) (grown_setB w7 X 1 (.slice (some ⟨g7, 0, none⟩) (ss.length + 1) k7)) (RowT.cb HXb.out (by decide)))
          have HOxb := Lib.hid (own_rowT (own_rowT (own_alloc HOxa.out (.cells #[.int .i64 sz] 3)) hg7 (RowT.own (own_alloc HIa.out.hs _) (by decide))) (grown_setB w7 X 1 (.slice (some ⟨g7, 0, none⟩) (ss.length + 1) k7)) (RowT.cb HXb.out (by decide)))
          have HBb := Lib.hid (show Below N w (w7.setCell ⟨X, 1, none⟩ (.slice (some ⟨g7, 0, none⟩) (ss.length + 1) k7)) from ((HBa.out.alloc hNw _).trans hb7).setCell (p := ⟨X, 1, none⟩) (show N ≤ X by omega) _)
          clear HXb u1 u1f u1s own7 hg7 hgg7 hb7 HIa HBa HOta HOxa x1 x1f hXw hNw
          obtain ⟨w8, hw8⟩ : ∃ x, w7.setCell ⟨X, 1, none⟩ (.slice (some ⟨g7, 0, none⟩) (ss.length + 1) k7) = x := ⟨_, rfl⟩
          rw [hw8] at HIb HOtb HOxb HBb
          rw [hw8]
          clear hw8
          have HSz := Lib.hid (show sz = ((TW.length + XW.length : Nat) : Int) by rw [← hsz]; omega)
          rw [← HSz.out] at HSk
          obtain ⟨ss2, hss2⟩ : ∃ x, ss ++ [sz] = x := ⟨_, rfl⟩
          rw [hss2] at HIb HSk
          clear hss2 hsz hszw
          have hNw : N ≤ w8.heap.size := Nat.le_of_lt HIb.out.hr.lt
          obtain ⟨P0, hP0⟩ : ∃ x, w8.heap.size = x := ⟨_, rfl⟩
          have HP0 := Lib.hid hP0; clear hP0
          obtain ⟨gD, hgD⟩ : ∃ x, Value.slice (some ⟨g5, 0, none⟩) (ds.length + 1) k5 = x := ⟨_, rfl⟩
          obtain ⟨gS, hgS⟩ : ∃ x, Value.slice (some ⟨g7, 0, none⟩) (ss.length + 1) k7 = x := ⟨_, rfl⟩
          rw [hgD, hgS] at HIb
          clear hgD hgS
          obtain ⟨TS, hTS⟩ : ∃ x, TW.map stemL = x := ⟨_, rfl⟩
          obtain ⟨XS, hXS⟩ : ∃ x, XW.map stemL = x := ⟨_, rfl⟩
          rw [hTS, hXS] at HNm HCt
          have HTS := Lib.hid hTS; have HXS := Lib.hid hXS
          have HTSl := Lib.hid (show TS.length = TW.length by rw [← hTS, List.length_map])
          have HXSl := Lib.hid (show XS.length = XW.length by rw [← hXS, List.length_map])
          clear hTS hXS
          go_wp2_with fail
          go_loopw [13, 71] (fun t13 t71 wr => ∃ j : Nat, j ≤ TW.length ∧ t71 = .int .i64 j ∧ Hid (wr.ownsRow P0 9 1 t13 (thrice (TS.take j)).length (strCells (thrice (TS.take j)))) ∧ Hid (Below P0 w8 wr)) (fun _ t _ => TW.length - (intOf t).toNat)
          case atStart => exact ⟨0, Nat.zero_le _, rfl, World.ownsRow_nil _ _ _ _, Below.refl _ _⟩
          case round =>
            obtain ⟨j, hj, rfl, HO, HBo⟩ := hrel
            obtain ⟨wi, rfl⟩ : ∃ x : World, x = wr := ⟨_, rfl⟩
            by_cases hjt : j < TW.length
            · obtain ⟨x, hx⟩ : ∃ x, TW[j]? = some x := ⟨_, List.getElem?_eq_getElem hjt⟩
              have hX30 : x.length ≤ 1048576 := by have := HT30.out x (by rw [List.mem_append]; exact Or.inl (List.mem_of_getElem? hx)); omega
              obtain ⟨s, hs⟩ : ∃ s, stemL x = s := ⟨_, rfl⟩
              have HSs := Lib.hid hs
              obtain ⟨gt, hAt⟩ : ∃ g, At = some ⟨g, 0, none⟩ := by
                obtain ⟨A', c', he, _, _, hA'⟩ := own_form HOtb.out
                cases he
                obtain ⟨g, h1, _⟩ := hA' (by omega)
                exact ⟨g, h1⟩
              subst hAt
              have HRw := Lib.hid (HOtb.out.below_row (by rw [HP0.out]; exact HBo.out))
              have jc : wi.cell? ⟨gt, j, none⟩ = some (.string (str0 x)) := own_cell HRw.out (strCells_get hx)
              have hjb := World.block_lt_of_cell? _ _ jc
              simp only at hjb
              have HTj := Lib.hid (show thrice (TS.take (j + 1)) = thrice (TS.take j) ++ [s, s, s] by rw [stem_take HTS.out hx hs, thrice_snoc])
              obtain ⟨ol, hol⟩ : ∃ x, thrice (TS.take j) = x := ⟨_, rfl⟩
              have hol3 : ol.length ≤ 600006 := by rw [← hol, thrice_len, List.length_take]; omega
              rw [hol] at HO HTj
              have HPi := Lib.hid (show P0 ≤ wi.heap.size by have := HBo.out.size; rw [HP0.out] at this; exact this)
              obtain ⟨Ao, co, rfl, hco, _, _⟩ := own_form HO.out
              clear hx hs hol
              go_wp2_with (first
                | (at_builtin; have hq := HC3; go_must (refine wpList_app _ rfl (.tmp 75) (.tmp 82) 38 rfl P0 9 _ 16 Tryz.underlying38 info_string rfl (.slice Ao ol.length co) ol.length (strCells ol) rfl (own_alloc (own_rowT HO.out (grown_none HC3.out) (RowT.none _ _)) _) [.string (str0 s), .string (str0 s), .string (str0 s)] 3 rfl (by omega) _ rfl (cell_new _ [.string (str0 s), .string (str0 s), .string (str0 s)] 9 _ rfl) (by intro u hu; simp at hu; subst hu; rfl) (by omega) (by unfold maxLen; omega) (by have := HC3.out.size; have := HPi.out; simp; omega) ?_); intro g1 c1 w2 h1 hg1 hgg1 hb1)
                | (go_at_call 16; go_must (refine (refStem_v x s _ hX30 HSs.out).mono ?_); rintro e wz ⟨rfl, hb⟩; first | (have hq := HC2; have HC3 := Lib.hid (HC2.out.trans (hb.mono HC2.out.size)); clear hb) | (have hq := HC1; have HC2 := Lib.hid (HC1.out.trans (hb.mono HC1.out.size)); clear hb) | (have HC1 := Lib.hid hb; clear hb)))
              go_roundw
              case rel =>
                refine ⟨j + 1, by omega, by go_num, ?_, ?_⟩
                · rw [HTj.out, List.length_append, strCells_append]; exact h1
                · exact (HBo.out.trans ((HC3.out.mono HPi.out).alloc (by have := HC3.out.size; have := HPi.out; omega) _)).trans hb1
              case measure => simp [intOf]; omega
            · have hje : j = TW.length := by omega
              subst hje
              rw [← HTSl.out, List.take_length] at HO
              go_wp2_with fail
              go_loopw [13, 87] (fun t13 t87 wr => ∃ j : Nat, j ≤ XW.length ∧ t87 = .int .i64 j ∧ Hid (wr.ownsRow P0 9 1 t13 (thrice TS ++ XS.take j).length (strCells (thrice TS ++ XS.take j))) ∧ Hid (Below P0 w8 wr)) (fun _ t _ => XW.length - (intOf t).toNat)
              case atStart => exact ⟨0, Nat.zero_le _, rfl, by rw [List.take_zero, List.append_nil]; exact HO.out, HBo.out⟩
              case round =>
                clear HO HBo
                obtain ⟨j, hj, rfl, HO, HBo⟩ := hrel
                obtain ⟨wi, rfl⟩ : ∃ x : World, x = wr := ⟨_, rfl⟩
                by_cases hjt : j < XW.length
                · obtain ⟨x, hx⟩ : ∃ x, XW[j]? = some x := ⟨_, List.getElem?_eq_getElem hjt⟩
                  have hX30 : x.length ≤ 1048576 := by have := HT30.out x (by rw [List.mem_append]; exact Or.inr (List.mem_of_getElem? hx)); omega
                  obtain ⟨s, hs⟩ : ∃ s, stemL x = s := ⟨_, rfl⟩
                  have HSs := Lib.hid hs
                  obtain ⟨gx, hAx⟩ : ∃ g, Ax = some ⟨g, 0, none⟩ := by
                    obtain ⟨A', c', he, _, _, hA'⟩ := own_form HOxb.out
                    cases he
                    obtain ⟨g, h1, _⟩ := hA' (by omega)
                    exact ⟨g, h1⟩
                  subst hAx
                  have HRw := Lib.hid (HOxb.out.below_row (by rw [HP0.out]; exact HBo.out))
                  have jc : wi.cell? ⟨gx, j, none⟩ = some (.string (str0 x)) := own_cell HRw.out (strCells_get hx)
                  have hjb := World.block_lt_of_cell? _ _ jc
                  simp only at hjb
                  have HTj := Lib.hid (show thrice TS ++ XS.take (j + 1) = (thrice TS ++ XS.take j) ++ [s] by rw [stem_take HXS.out hx hs, ← List.append_assoc])
                  obtain ⟨ol, hol⟩ : ∃ x, thrice TS ++ XS.take j = x := ⟨_, rfl⟩
                  have hol3 : ol.length ≤ 800012 := by rw [← hol, List.length_append, thrice_len, HTSl.out, List.length_take, HXSl.out]; omega
                  rw [hol] at HO HTj
                  have HPi := Lib.hid (show P0 ≤ wi.heap.size by have := HBo.out.size; rw [HP0.out] at this; exact this)
                  obtain ⟨Ao, co, rfl, hco, _, _⟩ := own_form HO.out
                  clear hx hs hol
                  go_wp2_with (first
                    | (at_builtin; have hq := HC1; go_must (refine wpList_push _ rfl (.tmp 91) (.tmp 94) 38 rfl P0 9 _ 1 16 Tryz.underlying38 info_string rfl (by omega) (.slice Ao ol.length co) ol.length (strCells ol) rfl (own_alloc (own_rowT HO.out (grown_none HC1.out) (RowT.none _ _)) _) [.string (str0 s)] rfl _ rfl (cell_new _ [.string (str0 s)] 9 _ rfl) (one_str _) (by omega) (by unfold maxLen; omega) (by have := HC1.out.size; have := HPi.out; simp; omega) ?_); intro g1 c1 w2 h1 hw1 hg1 hb1)
                    | (go_at_call 16; go_must (refine (refStem_v x s _ hX30 HSs.out).mono ?_); rintro e wz ⟨rfl, hb⟩; first | (have hq := HC2; have HC3 := Lib.hid (HC2.out.trans (hb.mono HC2.out.size)); clear hb) | (have hq := HC1; have HC2 := Lib.hid (HC1.out.trans (hb.mono HC1.out.size)); clear hb) | (have HC1 := Lib.hid hb; clear hb)))
                  go_roundw
                  case rel =>
                    refine ⟨j + 1, by omega, by go_num, ?_, ?_⟩
                    · rw [HTj.out, List.length_append, strCells_append]; exact h1
                    · exact (HBo.out.trans ((HC1.out.mono HPi.out).alloc (by have := HC1.out.size; have := HPi.out; omega) _)).trans hb1
                  case measure => simp [intOf]; omega
                · have hje : j = XW.length := by omega
                  subst hje
                  rw [← HXSl.out, List.take_length] at HO
                  obtain ⟨OL, hOL⟩ : ∃ x, ownL TS XS = x := ⟨_, rfl⟩
                  have hOLl : OL.length ≤ 800012 := by rw [← hOL, ownL, List.length_append, thrice_len, HTSl.out, HXSl.out]; omega
                  have HO2 := Lib.hid (show wi.ownsRow P0 9 1 _ OL.length (strCells OL) by rw [← hOL]; exact HO.out)
                  rw [hOL] at HNm HCt
                  obtain ⟨M, hM⟩ : ∃ x, srt OL = x := ⟨_, rfl⟩
                  have hMl : M.length = OL.length := by rw [← hM]; exact srt_len OL
                  have HMs := Lib.hid (show M.Pairwise (· ≤ ·) by rw [← hM]; exact srt_sorted OL)
                  rw [hM] at HCt
                  have HNm2 := Lib.hid (show nmL D k = onceL M M.length by rw [HNm.out, namesL, hM])
                  clear HNm
                  obtain ⟨nO, hnO⟩ : ∃ x, OL.length = x := ⟨_, rfl⟩
                  rw [hnO] at HO2 hMl hOLl
                  obtain ⟨Ao, co, rfl, hco, _, _⟩ := own_form HO2.out
                  have HS := Lib.hid (sortS_q P0 (.slice Ao nO co) OL wi (by rw [hnO]; exact HO2.out) (by omega))
                  have HnO := Lib.hid hnO
                  have hM' : (OL.mergeSort fun x y => decide (x ≤ y)) = M := hM
                  have HM' := Lib.hid hM'
                  have HPi := Lib.hid (show P0 ≤ wi.heap.size by have := HBo.out.size; rw [HP0.out] at this; exact this)
                  rw [hMl] at HNm2 HCt
                  have HMl := Lib.hid hMl
                  clear hOL HO hM hM' hnO hMl
                  go_upto_region 26 with (go_at_call 17; go_must (refine HS.out.mono ?_); rintro e w10 ⟨rfl, own10, hg10⟩)
                  rw [HM'.out, HnO.out] at own10
                  have HO10 := Lib.hid own10
                  have HB10 := Lib.hid (show Below P0 w8 w10 from HBo.out.trans (below_of_grown hg10 HPi.out (own_block_ge HO2.out)))
                  clear own10 hg10 HO2 HBo HS
                  obtain ⟨P1, hP1⟩ : ∃ x, w10.heap.size = x := ⟨_, rfl⟩
                  have HP1 := Lib.hid hP1; clear hP1
                  have hP01 := Lib.hid (show P0 ≤ P1 by rw [← HP1.out]; have := HB10.out.size; rw [HP0.out] at this; exact this)
                  go_wp2_with fail
                  go_loopw [18, 19, 101] (fun t18 t19 t101 wr => ∃ i : Nat, i ≤ nO ∧ t101 = .int .i64 i ∧ Hid (wr.ownsRow P1 9 1 t18 (onceL M i).length (strCells (onceL M i))) ∧ Hid (wr.ownsRow P1 3 1 t19 (onceL M i).length (intCells (cntL M i))) ∧ Hid (Below P1 w10 wr)) (fun _ _ t _ => nO - (intOf t).toNat)
                  case atStart => exact ⟨0, Nat.zero_le _, rfl, World.ownsRow_nil _ _ _ _, World.ownsRow_nil _ _ _ _, Below.refl _ _⟩
                  case round =>
                    obtain ⟨i, hi, rfl, HNs, HCs, HBs⟩ := hrel
                    obtain ⟨wv, rfl⟩ : ∃ x : World, x = wr := ⟨_, rfl⟩
                    by_cases hit : i < nO
                    · obtain ⟨x, hx⟩ : ∃ x, M[i]? = some x := ⟨_, List.getElem?_eq_getElem (by rw [HMl.out]; exact hit)⟩
                      obtain ⟨go, hAo⟩ : ∃ g, Ao = some ⟨g, 0, none⟩ := by
                        obtain ⟨A', c', he, _, _, hA'⟩ := own_form HO10.out
                        cases he
                        obtain ⟨g, h1, _⟩ := hA' (by omega)
                        exact ⟨g, h1⟩
                      subst hAo
                      have HRw := Lib.hid (HO10.out.below_row (by rw [HP1.out]; exact HBs.out))
                      have jc : wv.cell? ⟨go, i, none⟩ = some (.string (str0 x)) := own_cell HRw.out (strCells_get hx)
                      have hgl := World.block_lt_of_cell? _ _ jc
                      simp only at hgl
                      obtain ⟨bn, hbn⟩ : ∃ b, decide (i = 0 ∨ M[i - 1]? ≠ some x) = b := ⟨_, rfl⟩
                      have HBn := Lib.hid hbn; clear hbn
                      obtain ⟨C6, j6, c6, q1, q2, q3, q4, q5, q6, q7, q8⟩ := cnt_step HMs.out hx
                      have Q1 := Lib.hid q1; have Q2 := Lib.hid q2; have Q3 := Lib.hid q3; have Q6 := Lib.hid q6; have Q7 := Lib.hid q7; have Q8 := Lib.hid q8
                      clear q1 q2 q3 q6 q7 q8
                      obtain ⟨N6, hN6⟩ : ∃ y, onceL M (i + 1) = y := ⟨_, rfl⟩
                      rw [hN6] at Q1 Q7 Q8
                      have HN6 := Lib.hid hN6
                      have hN6l : N6.length ≤ i + 1 := by rw [← hN6]; exact onceL_len M (i + 1)
                      clear hN6
                      obtain ⟨N5, hN5⟩ : ∃ y, onceL M i = y := ⟨_, rfl⟩
                      rw [hN5] at HNs HCs Q7 Q8
                      have hN5l : N5.length ≤ i := by rw [← hN5]; exact onceL_len M i
                      obtain ⟨C5, hC5⟩ : ∃ y, cntL M i = y := ⟨_, rfl⟩
                      rw [hC5] at HCs Q7 Q8
                      clear hN5 hC5
                      obtain ⟨An, cn, rfl, hcn, _, _⟩ := own_form HNs.out
                      obtain ⟨Ac, cc, rfl, hcc, _, _⟩ := own_form HCs.out
                      have hPv := Lib.hid (show P1 ≤ wv.heap.size by have := HBs.out.size; rw [HP1.out] at this; exact this)
                      have HX := Lib.hid hx
                      go_upto_region 31 with fail
                      go_cut [116] from 102 to 132 (fun s116 wx => s116 = .bool bn ∧ EqW wx wv)
                      case first =>
                        by_cases h0 : i = 0
                        · obtain rfl : bn = true := by rw [← HBn.out]; simp [h0]
                          subst h0
                          clear hx
                          go_wp2_with fail
                          go_meet
                          exact ⟨rfl, EqW.refl _⟩
                        · obtain ⟨y, hy⟩ : ∃ y, M[i - 1]? = some y := ⟨_, List.getElem?_eq_getElem (by rw [HMl.out]; omega)⟩
                          have k1 : wv.cell? ⟨go, i - 1, none⟩ = some (.string (str0 y)) := own_cell HRw.out (strCells_get hy)
                          have hj0 : ((i : Int) == 0) = false := by simp; omega
                          have hj1 : (0 : Int) ≤ (i : Int) - 1 := by omega
                          have hj2 : ((i : Int) - 1).toNat = i - 1 := by omega
                          have hj3 : (i : Int) - 1 < (nO : Int) := by omega
                          by_cases hxy : x = y
                          · obtain rfl : bn = false := by rw [← HBn.out]; simp [h0, hy, hxy]
                            subst hxy
                            clear hx hy
                            go_wp2_with fail
                            go_meet
                            exact ⟨rfl, EqW.refl _⟩
                          · obtain rfl : bn = true := by rw [← HBn.out]; exact decide_eq_true (Or.inr (by rw [hy]; exact fun e => hxy (Option.some.inj e).symm))
                            have hss : str0 x ≠ str0 y := str0_ne hxy
                            have hs1 := str_ne hss
                            have hs2 := str_ne2 hss
                            clear hx hy hss
                            go_wp2_with fail
                            go_meet
                            exact ⟨rfl, EqW.refl _⟩
                      case rest =>
                        obtain ⟨rfl, hwx⟩ := hcut
                        unfold EqW at hwx
                        subst hwx
                        clear hx
                        go_upto_if 116 with fail
                        go_cut [18, 19] from 102 to 132 (fun s18 s19 wx => ∃ (An6 : Option Addr) (cn6 : Nat) (Ac6 : Option Addr) (cc6 : Nat), s18 = .slice An6 N6.length cn6 ∧ s19 = .slice Ac6 N6.length cc6 ∧ cn6 ≤ maxLen ∧ cc6 ≤ maxLen ∧ Hid (wx.ownsRow P1 9 1 (.slice An6 N6.length cn6) N6.length (strCells N6)) ∧ Hid (wx.ownsRow P1 3 1 (.slice Ac6 N6.length cc6) N6.length (intCells C6)) ∧ Hid (Below P1 w10 wx))
                        case first =>
                          cases bn with
                          | false =>
                            have hn : ¬ (i = 0 ∨ M[i - 1]? ≠ some x) := by have := HBn.out; simpa using this
                            obtain ⟨e1, e2⟩ := Q8.out hn
                            subst e1
                            subst e2
                            clear hn
                            go_wp2_with fail
                            go_meet
                            exact ⟨An, cn, Ac, cc, rfl, rfl, hcn, hcc, HNs.out, HCs.out, HBs.out⟩
                          | true =>
                            have hn : i = 0 ∨ M[i - 1]? ≠ some x := by have := HBn.out; simpa using this
                            obtain ⟨e1, e2⟩ := Q7.out hn
                            have E1 := Lib.hid e1; have E2 := Lib.hid e2
                            clear hn e1 e2
                            go_wp2_with (first
                              | (at_builtin; have hq := HNa; go_must (refine wpList_push _ rfl (.tmp 121) (.tmp 122) 23 rfl P1 3 _ 1 8 Tryz.underlying23 info_intR rfl (by omega) (.slice Ac N5.length cc) N5.length (intCells C5) rfl (own_alloc HCa.out _) [.int .i64 0] rfl _ rfl (cell_new _ [.int .i64 0] 3 _ rfl) (one_int _ _) (by omega) (by unfold maxLen; omega) (by have := hPa.out; simp; omega) ?_); intro gc kc wc2 ownc hgc hggc hbc)
                              | (at_builtin; go_must (refine wpList_push _ rfl (.tmp 117) (.tmp 119) 38 rfl P1 9 _ 1 16 Tryz.underlying38 info_string rfl (by omega) (.slice An N5.length cn) N5.length (strCells N5) rfl (own_alloc HNs.out _) [.string (str0 x)] rfl _ rfl (cell_new _ [.string (str0 x)] 9 _ rfl) (one_str _) (by omega) (by unfold maxLen; omega) (by have := hPv.out; simp; omega) ?_); intro gn kn wn ownn hgn hggn hbn; have HNa := Lib.hid ownn; have HCa := Lib.hid (own_rowT (own_alloc HCs.out (.cells #[.string (str0 x)] 9)) hgn (RowT.own (own_alloc HNs.out _) (by decide))); have hPa := Lib.hid (show P1 ≤ wn.heap.size by have h1 := hPv.out; have h2 := hbn.size; rw [World.size_alloc] at h2; omega); have HBa := Lib.hid (show Below P1 w10 wn from (HBs.out.alloc hPv.out _).trans hbn); clear ownn hgn hggn hbn))
                            go_meet
                            have hl6 : N6.length = N5.length + 1 := by rw [E2.out]; simp
                            refine ⟨some ⟨gn, 0, none⟩, kn, some ⟨gc, 0, none⟩, kc, by rw [hl6], by rw [hl6], (by obtain ⟨_, _, he, h, _⟩ := own_form HNa.out; cases he; exact h), (by obtain ⟨_, _, he, h, _⟩ := own_form ownc; cases he; exact h), ?_, ?_, ?_⟩
                            · have h1 := own_rowT (own_alloc HNa.out (.cells #[.int .i64 0] 3)) hgc (RowT.own (own_alloc HCa.out _) (by decide))
                              rw [hl6, E2.out, strCells_append]
                              exact h1
                            · rw [hl6, E1.out, intCells_snoc]; exact ownc
                            · exact (HBa.out.alloc hPa.out _).trans hbc
                        case rest =>
                          obtain ⟨An6, cn6, Ac6, cc6, rfl, rfl, hcn6, hcc6, HN7, HC7, HB7⟩ := hcut
                          obtain ⟨wy, rfl⟩ : ∃ x : World, x = wc := ⟨_, rfl⟩
                          clear HNs HCs HBs HRw jc hgl
                          obtain ⟨n6, hn6⟩ : ∃ y, N6.length = y := ⟨_, rfl⟩
                          have hj6 : j6 + 1 = n6 := by rw [← hn6, ← Q1.out]; exact Q2.out
                          have hn6b : n6 ≤ i + 1 := by omega
                          rw [hn6] at HN7 HC7
                          rw [hn6]
                          have Hn6 := Lib.hid hn6
                          clear hn6
                          obtain ⟨gc, hAc⟩ : ∃ g, Ac6 = some ⟨g, 0, none⟩ := by
                            obtain ⟨A', c', he, _, _, hA'⟩ := own_form HC7.out
                            cases he
                            obtain ⟨g, h1, _⟩ := hA' (by omega)
                            exact ⟨g, h1⟩
                          subst hAc
                          have m1 : wy.cell? ⟨gc, j6, none⟩ = some (.int .i64 c6) := own_cell HC7.out (by simp [intCells, Q3.out])
                          have mf : wy.frozen? ⟨gc, j6, none⟩ = false := own_frozen HC7.out
                          have e0 : IntKind.i64.wrap ((n6 : Int) - 1) = (j6 : Int) := by rw [show (n6 : Int) - 1 = (j6 : Int) by omega]; exact IntWalk.i64_in _ (by omega)
                          have e3 : IntKind.i64.wrap (c6 + 1) = c6 + 1 := IntWalk.i64_in _ (by omega)
                          have e4 : (j6 : Int) < (n6 : Int) := by omega
                          have mb := World.block_lt_of_cell? _ _ m1
                          simp only at mb
                          have Hj6 := Lib.hid hj6; clear hj6
                          go_wp2_with fail
                          go_roundw
                          case rel =>
                            refine ⟨i + 1, by omega, by go_num, ?_, ?_, ?_⟩
                            · rw [HN6.out, Hn6.out]; exact own_rowT HN7.out (grown_setB wy gc j6 _) (RowT.own HC7.out (by decide))
                            · rw [HN6.out, Hn6.out, Q6.out, ← intCells_set]; exact own_put HC7.out j6 _
                            · exact HB7.out.setCell (p := ⟨gc, j6, none⟩) (HC7.out.lt gc rfl).1 _
                          case measure => simp [intOf]; omega
                    · have hie : i = nO := by omega
                      subst hie
                      have HNf := Lib.hid (show wv.ownsRow P1 9 1 _ (nmL D k).length (strCells (nmL D k)) by rw [HNm2.out]; exact HNs.out)
                      have HCf := Lib.hid (show wv.ownsRow P1 3 1 _ (nmL D k).length (intCells (ctL D k)) by rw [HCt.out, HNm2.out]; exact HCs.out)
                      clear HNs HCs
                      obtain ⟨An, cn, rfl, hcn, _, _⟩ := own_form HNf.out
                      obtain ⟨Ac, cc, rfl, hcc, _, _⟩ := own_form HCf.out
                      have HBp := Lib.hid (show Below P0 w8 wv from HB10.out.trans (HBs.out.mono hP01.out))
                      have HIv := Lib.hid (HIb.out.below (by rw [HP0.out]; exact HBp.out))
                      have HBv := Lib.hid (show Below N w wv from HBb.out.trans (HBp.out.mono (by rw [← HP0.out]; exact hNw)))
                      have hNv := Lib.hid (show N ≤ wv.heap.size from Nat.le_of_lt HIv.out.hr.lt)
                      have HP1l := Lib.hid (show N ≤ P1 by have h1 := hP01.out; have h2 := HP0.out; omega)
                      have HApn := Lib.hid (show Apart (.slice An (nmL D k).length cn) (.slice A3 tl.length c3) from fun b hb e => by have h1 := (HNf.out.lt b hb).1; have h2 := own_lt HIb.out.ht b e; have h3 := hP01.out; have h4 := HP0.out; omega)
                      have HApc := Lib.hid (show Apart (.slice Ac (nmL D k).length cc) gS from fun b hb e => by have h1 := (HCf.out.lt b hb).1; have h2 := own_lt HIb.out.hs b e; have h3 := hP01.out; have h4 := HP0.out; omega)
                      have hkl : k ≤ 120 := by omega
                      go_upto_region 36 with (first
                        | (at_builtin; have hq := HMn; go_must (refine wpList_push _ rfl (.tmp 137) (.tmp 139) 49 rfl N 23 _ 1 24 Tryz.underlying49 info_slI rfl (by omega) (.slice A5 k c5) k ((List.range k).map cv) rfl (own_alloc HMn.out _) [.slice Ac (nmL D k).length cc] rfl _ rfl (cell_new _ [.slice Ac (nmL D k).length cc] 23 _ rfl) (one_sl _ _ _) (by omega) (by unfold maxLen; omega) (by have := hNs.out; simp; omega) ?_); intro gm km wm ownm hgm hggm hbm)
                        | (at_builtin; go_must (refine wpList_push _ rfl (.tmp 133) (.tmp 135) 50 rfl N 38 _ 1 24 Tryz.underlying50 info_slS rfl (by omega) (.slice A4 k c4) k ((List.range k).map nv) rfl (own_alloc HIv.out.hst _) [.slice An (nmL D k).length cn] rfl _ rfl (cell_new _ [.slice An (nmL D k).length cn] 38 _ rfl) (one_sl _ _ _) (by omega) (by unfold maxLen; omega) (by have := hNv.out; simp; omega) ?_); intro gs ks ws owns hgs hggs hbs; have HSn := Lib.hid owns; have HGs := Lib.hid hgs; have HMn := Lib.hid (own_rowT (own_alloc HIv.out.hmn (.cells #[.slice An (nmL D k).length cn] 38)) hgs (RowT.own (own_alloc HIv.out.hst _) (by decide))); have hNs := Lib.hid (show N ≤ ws.heap.size by have h1 := hNv.out; have h2 := hbs.size; rw [World.size_alloc] at h2; omega); have HBs2 := Lib.hid (show Below N w ws from (HBv.out.alloc hNv.out _).trans hbs); clear owns hgs hggs hbs))
                      have HI2 := Lib.hid (RefIn.pushN (HIv.out.below ((Below.refl _ _).alloc (Nat.le_refl _) (.cells #[.slice An (nmL D k).length cn] 38))) (own_alloc (own_base HNf.out HP1l.out) _) (own_alloc (own_base HCf.out HP1l.out) _) HApn.out HApc.out (grown_thenAlloc HGs.out (.cells #[.slice Ac (nmL D k).length cc] 23)) (own_alloc HSn.out _) hgm (own_alloc HMn.out _) ownm)
                      have HB2 := Lib.hid (show Below N w wm from (HBs2.out.alloc hNs.out _).trans hbm)
                      clear HSn HGs HMn ownm hgm hggm hbm HIv HBs HB10
                      have HNr := Lib.hid (show wm.ownsRow N 9 1 (.slice An (nmL D k).length cn) (nmL D k).length (strCells (nmL D k)) by have h1 := HI2.out.nm k (by omega); simp only [Nat.lt_irrefl, if_false] at h1; exact h1)
                      have hNm2 : N ≤ wm.heap.size := Nat.le_of_lt HI2.out.hr.lt
                      have hAl2 := HAl.out
                      have hNl2 := HNl.out
                      go_wp2_with (at_builtin; go_must (refine wpList_joinG _ rfl (.tmp 141) (.tmp 142) 38 rfl N 9 _ 16 Tryz.underlying38 info_string rfl (.slice A3 tl.length c3) tl.length (strCells tl) rfl HI2.out.ht N (.slice An (nmL D k).length cn) (nmL D k).length (strCells (nmL D k)) rfl HNr.out (strCells_one _) (by omega) (by unfold maxLen; omega) hNm2 ?_); intro A6 c6 w3 own3 hg3 hn3)
                      have HI3 := Lib.hid (HI2.out.join hg3 own3 hn3)
                      have HB3 := Lib.hid (show Below N w w3 from HB2.out.trans (below_of_grown hg3 hNm2 (own_block_ge HI2.out.ht)))
                      clear own3 hg3 hn3
                      go_roundw
                      case rel => exact ⟨k + 1, _, _, _, _, by omega, by go_num, by rw [HDk.out, HSk.out, HAk.out]; exact HI3.out, HB3.out⟩
                      case measure => simp [intOf]; omega
      · have hke : k = D.length := by omega
        subst hke
        simp only [List.take_length] at HI
        obtain ⟨A1, c1, rfl, hc1, _, _⟩ := own_form HI.out.hd
        obtain ⟨A2, c2, rfl, hc2, _, _⟩ := own_form HI.out.hs
        obtain ⟨A3, c3, rfl, hc3, _, _⟩ := own_form HI.out.ht
        obtain ⟨A4, c4, rfl, hc4, _, _⟩ := own_form HI.out.hst
        obtain ⟨A5, c5, rfl, hc5, _, _⟩ := own_form HI.out.hmn
        have hXN : N < X := HI.out.hNX
        have hX1 : X < wp.heap.size := HI.out.hx.lt
        have HAl := Lib.hid (show (allW D).length ≤ 1048576 from Nat.le_trans (allW_len _) (by have := HF2.out; omega))
        obtain ⟨r, hr⟩ : ∃ x, wp.heap.size = x := ⟨_, rfl⟩
        have HR := Lib.hid hr
        rw [hr] at hX1
        clear hr
        obtain ⟨i1, hi1, hz1, hz2, hz3⟩ := info_parts info_intR
        have HI1i := Lib.hid hi1; have HZ1i := Lib.hid hz1; have HZ2i := Lib.hid hz2; have HZ3i := Lib.hid hz3
        clear hi1 hz1 hz2 hz3
        go_upto_region 39 with (at_make; go_must (refine wpList_make_full _ rfl _ _ 23 rfl r 3 i1 (.int .i64 0) 1 Tryz.underlying23 HI1i.out HZ1i.out HZ2i.out .i64 .i64 _ _ D.length rfl rfl rfl rfl (by rw [HZ3i.out]; omega) (by unfold maxLen; omega) (Nat.le_of_eq HR.out.symm) ?_); intro w2 own2 hg2; rw [HR.out] at own2; rw [HR.out])
        have hmz : (madeCells (Value.int .i64 0).cells (D.length * 1)).toList = intCells (atP D (nixK D) 0) := by
          rw [at_zero, Nat.mul_one]
          exact (toList_madeCells_one _ _).trans (by simp [intCells])
        rw [hmz] at own2
        have HAt2 := Lib.hid own2
        have hb2 : Below r wp w2 := (Below.refl r wp).grown hg2 (Nat.le_of_eq HR.out.symm) (fun k hk => by cases hk)
        have HB2 := Lib.hid hb2
        have HI2 := Lib.hid (HI.out.below (by rw [HR.out]; exact hb2))
        clear own2 hg2 hmz hb2
        have hNw2 : N ≤ w2.heap.size := Nat.le_of_lt HI2.out.hr.lt
        have HSo := Lib.hid (sorted_g N _ (allW D) w2 HI2.out.ht HAl.out hNw2)
        go_upto_region 40 with (go_at_call 18; go_must (refine HSo.out.mono ?_); rintro e w3 ⟨v3, rfl, _, hb3, w3a, hg3, hb3a, own3⟩; have own3 : w3.ownsRow w3a.heap.size 9 1 v3 (nixK D).length (strCells (nixK D)) := own3; obtain ⟨A7, c7, rfl, hc7, _, hA7⟩ := own_form own3)
        have hr2 : r ≤ w2.heap.size := by have := HB2.out.size; rw [HR.out] at this; exact this
        have hr3 : r < w2.heap.size := by obtain ⟨_, h2⟩ := HAt2.out.lt r rfl; exact h2
        have hr3a : r + 1 ≤ w3a.heap.size := by have := hg3.size; omega
        have HG3 := Lib.hid (show GrownX (fun x => (Value.slice A3 (allW D).length c3).ownBlock = some x ∨ wp.heap.size ≤ x) wp w3 from ((GrownX.of_below (p := fun x => (Value.slice A3 (allW D).length c3).ownBlock = some x ∨ wp.heap.size ≤ x) (show Below wp.heap.size wp w2 by rw [HR.out]; exact HB2.out)).trans (GrownX.of_grown hg3 (fun g hg => Or.inl hg))).trans (GrownX.of_below hb3a))
        obtain ⟨hfx, hxb⟩ := HI.out.fix rfl rfl HG3.out
        rw [HR.out] at hfx
        have HB3 := Lib.hid (show Below N w w3 from (HB.out.trans (HB2.out.mono (by omega))).trans hb3)
        have hAtk : w3.ownsRow r 3 1 (.slice (some ⟨r, 0, none⟩) D.length D.length) D.length (intCells (atP D (nixK D) 0)) := (HAt2.out.kept hg3 (Or.inr (fun e => by have h1 := own_lt HI.out.ht r e.symm; rw [HR.out] at h1; omega))).below_row hb3a
        have hSk : w3.ownsRow (r + 1) 9 1 (.slice A7 (nixK D).length c7) (nixK D).length (strCells (nixK D)) := own_base own3 hr3a
        have HR20 := Lib.hid (show Ref2 w3 N X r D (.slice A1 (nixD D).length c1) (.slice A2 (nixS D).length c2) (.slice A4 D.length c4) (.slice A5 D.length c5) (.slice none 0 0) (.slice A7 (nixK D).length c7) nv cv 0 (atP D (nixK D) 0) [] from
          ⟨hfx, hxb, hAtk, hSk, World.ownsRow_nil _ _ _ _, fun x hx => by (cases hx), rfl⟩)
        clear hfx hxb hAtk hSk hb3 hg3 hb3a own3 hr3a
        have HA7 := Lib.hid hA7; clear hA7
        have HKl := Lib.hid (show (nixK D).length ≤ 1048576 from Nat.le_trans (nixK_len D) (by have := HF2.out; omega))
        obtain ⟨nK, hnK⟩ : ∃ x, (nixK D).length = x := ⟨_, rfl⟩
        have HnK := Lib.hid hnK
        rw [hnK]
        rw [hnK] at HR20 HA7 HKl
        have hKl := HKl.out
        clear hnK HI HI2 HB2 HAt2 HSo HG3
        go_loopw [151] (fun t151 wr => ∃ (q : Nat) (tv : Value) (L : List (TermR × Value × Value)), q ≤ nK ∧ t151 = .int .i64 q ∧ L.length = q ∧ Hid (Ref2 wr N X r D (.slice A1 (nixD D).length c1) (.slice A2 (nixS D).length c2) (.slice A4 D.length c4) (.slice A5 D.length c5) tv (.slice A7 nK c7) nv cv q (atP D (nixK D) q) L) ∧ Hid (Below N w wr)) (fun t _ => nK - (intOf t).toNat)
        case atStart => exact ⟨0, _, [], Nat.zero_le _, rfl, rfl, HR20.out, HB3.out⟩
        case round =>
          clear HR20 HB3
          obtain ⟨q, tv, L, hq, rfl, hLq, H2, HB⟩ := hrel
          obtain ⟨wa, rfl⟩ : ∃ x : World, x = wr := ⟨_, rfl⟩
          by_cases hqt : q < nK
          · obtain ⟨s, hs⟩ : ∃ s, (nixK D)[q]? = some s := ⟨_, List.getElem?_eq_getElem (by rw [HnK.out]; exact hqt)⟩
            have HSq := Lib.hid hs; clear hs
            have HLq := Lib.hid hLq; clear hLq
            obtain ⟨gS, hgS, _, _⟩ := HA7.out (by omega)
            subst hgS
            have hSs : wa.cell? ⟨gS, q, none⟩ = some (.string (str0 s)) := own_cell (show wa.ownsRow (r + 1) 9 1 (.slice (some ⟨gS, 0, none⟩) nK c7) nK (strCells (nixK D)) by have h9 := H2.out.hS; rw [HnK.out] at h9; exact h9) (strCells_get HSq.out)
            have hgb := World.block_lt_of_cell? _ _ hSs
            simp only at hgb
            go_upto_region 43 with fail
            obtain ⟨T, hT⟩ : ∃ x, wa.heap.size = x := ⟨_, rfl⟩
            have HTl := Lib.hid hT
            have hrT : r < T := by rw [← hT]; exact (H2.out.ha.lt r rfl).2
            have hNT : N ≤ T := by rw [← hT]; exact Nat.le_of_lt H2.out.fx.hr.lt
            obtain ⟨w5, hw5⟩ : ∃ x, wa.alloc (.cells #[.string (str0 s), .slice none 0 0, .slice none 0 0] 44) = x := ⟨_, rfl⟩
            have HT5 := Lib.hid (show CB w5 T 44 #[.string (str0 s), .slice none 0 0, .slice none 0 0] by rw [← hw5, ← hT]; exact CB.new _ _ _)
            have HG5 := Lib.hid (show GrownX (fun x => x = r ∨ T ≤ x) wa w5 by rw [← hw5]; exact (GrownX.refl _ _).alloc _)
            have HA5 := Lib.hid (show w5.ownsRow r 3 1 (.slice (some ⟨r, 0, none⟩) D.length D.length) D.length (intCells (atM D (nixK D) q 0)) by rw [← hw5, atM_zero]; exact own_alloc H2.out.ha _)
            have HB5 := Lib.hid (show Below N w w5 by rw [← hw5]; exact HB.out.alloc (by omega) _)
            rw [hw5, hT]
            clear hw5 hT hSs hgb
            obtain ⟨W, hW⟩ : ∃ x, wAt D = x := ⟨_, rfl⟩
            have HWe := Lib.hid hW; clear hW
            go_wp2_with fail
            go_loopw [159] (fun t159 wr => ∃ (d : Nat) (Ad : Option Addr) (cd : Nat) (Am : Option Addr) (cm : Nat), d ≤ D.length ∧ t159 = .int .i64 d ∧ cd ≤ maxLen ∧ cm ≤ maxLen ∧ Hid (CB wr T 44 #[.string (str0 s), .slice Ad (pD W d s).length cd, .slice Am (pD W d s).length cm]) ∧ Hid (wr.ownsRow (T + 1) 3 1 (.slice Ad (pD W d s).length cd) (pD W d s).length (intCells (pD W d s))) ∧ Hid (wr.ownsRow (T + 1) 3 1 (.slice Am (pD W d s).length cm) (pD W d s).length (intCells (pM W d s))) ∧ Hid (Apart (.slice Ad (pD W d s).length cd) (.slice Am (pD W d s).length cm)) ∧ Hid (GrownX (fun x => x = r ∨ T ≤ x) wa wr) ∧ Hid (wr.ownsRow r 3 1 (.slice (some ⟨r, 0, none⟩) D.length D.length) D.length (intCells (atM D (nixK D) q d))) ∧ Hid (Below N w wr)) (fun t _ => D.length - (intOf t).toNat)
            case atStart => exact ⟨0, none, 0, none, 0, Nat.zero_le _, rfl, by simp [maxLen], by simp [maxLen], HT5.out, World.ownsRow_nil _ _ _ _, World.ownsRow_nil _ _ _ _, Apart.nil _ _, HG5.out, HA5.out, HB5.out⟩
            case round =>
              clear HT5 HG5 HA5 HB5
              obtain ⟨d, Ad, cd, Am, cm, hd, rfl, hcd, hcm, HT, HDr, HMr, HAp, HG, HAt, HBr⟩ := hrel
              obtain ⟨wb, rfl⟩ : ∃ x : World, x = wr := ⟨_, rfl⟩
              by_cases hdt : d < D.length
              · have HFx := Lib.hid ((H2.out.places (by rw [HTl.out]; exact HG.out) HAt.out).fx)
                have hpl : (pD W d s).length ≤ d := pD_len W d s
                obtain ⟨dl, hdl⟩ : ∃ x, pD W d s = x := ⟨_, rfl⟩
                obtain ⟨ml, hml⟩ : ∃ x, pM W d s = x := ⟨_, rfl⟩
                have Hdl := Lib.hid hdl; have Hml := Lib.hid hml
                rw [hdl] at HT HDr HMr HAp hpl
                rw [hml] at HMr
                clear hdl hml
                obtain ⟨n5, hn5⟩ : ∃ x, dl.length = x := ⟨_, rfl⟩
                have Hn5 := Lib.hid hn5
                rw [hn5] at HT HDr HMr HAp hpl
                clear hn5
                obtain ⟨a, ha⟩ : ∃ x, aq (nixK D) (nmL D d) q = x := ⟨_, rfl⟩
                have hal : a ≤ (nmL D d).length := by rw [← ha]; exact aq_le _ _ _
                have ca : wb.cell? ⟨r, d, none⟩ = some (.int .i64 (a : Int)) := own_cell HAt.out (by simp [intCells, atM_get hdt, ha])
                have hn1 := nmL_len D d
                have hn2 := HW.out
                obtain ⟨An, cn, hAn, hcn, _, hAn2⟩ := own_form (HFx.out.nm d hdt).1
                obtain ⟨Ac, cc, hAc, hcc, _, hAc2⟩ := own_form (HFx.out.ct d hdt).1
                obtain ⟨nn, hnn⟩ : ∃ x, (nmL D d).length = x := ⟨_, rfl⟩
                rw [hnn] at hAn hAc hAn2 hAc2 hal hn1
                obtain ⟨gst, hgst⟩ : ∃ g, A4 = some ⟨g, 0, none⟩ := by
                  obtain ⟨A', c', he, _, _, hA'⟩ := own_form HFx.out.hst.1
                  cases he
                  obtain ⟨g, h1, _⟩ := hA' (by omega)
                  exact ⟨g, h1⟩
                subst hgst
                obtain ⟨gmn, hgmn⟩ : ∃ g, A5 = some ⟨g, 0, none⟩ := by
                  obtain ⟨A', c', he, _, _, hA'⟩ := own_form HFx.out.hmn.1
                  cases he
                  obtain ⟨g, h1, _⟩ := hA' (by omega)
                  exact ⟨g, h1⟩
                subst hgmn
                have cs : wb.cell? ⟨gst, d, none⟩ = some (.slice An nn cn) := own_cell HFx.out.hst.1 (by rw [← hAn]; simp [hdt])
                have cm2 : wb.cell? ⟨gmn, d, none⟩ = some (.slice Ac nn cc) := own_cell HFx.out.hmn.1 (by rw [← hAc]; simp [hdt])
                have lb1 := World.block_lt_of_cell? _ _ ca
                have lb2 := World.block_lt_of_cell? _ _ cs
                have lb3 := World.block_lt_of_cell? _ _ cm2
                simp only at lb1 lb2 lb3
                have Hnn := Lib.hid hnn
                have HRs := ref_step (D := D) hdt HSq.out
                rw [ha, HWe.out] at HRs
                have Ha := Lib.hid ha
                have HNmr := Lib.hid (HFx.out.nm d hdt).1
                have HCtr := Lib.hid (HFx.out.ct d hdt).1
                have HcnE := Lib.hid hAn; have HccE := Lib.hid hAc
                have hg1 : gmn < r := by have h9 := HFx.out.hmn.2 gmn rfl; unfold Far at h9; omega
                have HCf2 := Lib.hid (show ∀ b, (Value.slice Ac nn cc).ownBlock = some b → b < r from fun b hb => by have h9 := (HFx.out.ct d hdt).2 b (by rw [hAc]; exact hb); unfold Far at h9; omega)
                clear hnn ha hAn hAc
                obtain ⟨bw, hbw⟩ : ∃ x, decide (0 < W d s) = x := ⟨_, rfl⟩
                have HBw := Lib.hid hbw; clear hbw
                have HRst := Lib.hid HRs
                go_upto_region 46 with fail
                go_cut [185] from 160 to 213 (fun s185 wx => s185 = .bool bw ∧ ∃ nq, wx = wb.drewN nq)
                case first =>
                  rcases HRs with ⟨hw, hnm, hct, haq⟩ | ⟨hw, hnm, haq⟩
                  · obtain rfl : bw = true := by rw [← HBw.out]; simpa using hw
                    have han : a < nn := by have := (List.getElem?_eq_some_iff.1 hnm).1; rw [Hnn.out] at this; exact this
                    obtain ⟨gn, hgn, _, _⟩ := hAn2 (by omega)
                    subst hgn
                    have cy : wb.cell? ⟨gn, a, none⟩ = some (.string (str0 s)) := own_cell (show wb.ownsRow N 9 1 (.slice (some ⟨gn, 0, none⟩) nn cn) nn (strCells (nmL D d)) by have h9 := HNmr.out; rw [HcnE.out, Hnn.out] at h9; exact h9) (strCells_get hnm)
                    have lb4 := World.block_lt_of_cell? _ _ cy
                    simp only at lb4
                    have hdd : decide ((a : Int) < (nn : Int)) = true := by simpa using han
                    have hdd2 : (a : Int) < (nn : Int) := by omega
                    clear hw hnm hct haq
                    go_quiet (fail)
                    go_wp2_with fail
                    go_meet
                    exact ⟨rfl, _, rfl⟩
                  · obtain rfl : bw = false := by rw [← HBw.out]; simp [hw]
                    by_cases han : a < nn
                    · obtain ⟨y, hy⟩ : ∃ y, (nmL D d)[a]? = some y := ⟨_, List.getElem?_eq_getElem (by rw [Hnn.out]; exact han)⟩
                      have hys : y ≠ s := fun e => hnm (by rw [hy, e])
                      obtain ⟨gn, hgn, _, _⟩ := hAn2 (by omega)
                      subst hgn
                      have cy : wb.cell? ⟨gn, a, none⟩ = some (.string (str0 y)) := own_cell (show wb.ownsRow N 9 1 (.slice (some ⟨gn, 0, none⟩) nn cn) nn (strCells (nmL D d)) by have h9 := HNmr.out; rw [HcnE.out, Hnn.out] at h9; exact h9) (strCells_get hy)
                      have lb4 := World.block_lt_of_cell? _ _ cy
                      simp only at lb4
                      have hdd : decide ((a : Int) < (nn : Int)) = true := by simpa using han
                      have hdd2 : (a : Int) < (nn : Int) := by omega
                      have hss : str0 y ≠ str0 s := str0_ne hys
                      have hs1 := str_ne hss
                      have hs2 := str_ne2 hss
                      clear hw hnm haq hy hys hss
                      go_quiet (fail)
                      go_wp2_with fail
                      go_meet
                      exact ⟨rfl, _, rfl⟩
                    · have hdd : decide ((a : Int) < (nn : Int)) = false := by simp; omega
                      have hdd2 : ¬ (a : Int) < (nn : Int) := by omega
                      clear hw hnm haq
                      go_quiet (fail)
                      go_wp2_with fail
                      go_meet
                      exact ⟨rfl, _, rfl⟩
                case rest =>
                  obtain ⟨rfl, nq, rfl⟩ := hcut
                  clear HRs
                  obtain ⟨w6, hw6⟩ : ∃ x, wb.drewN nq = x := ⟨_, rfl⟩
                  have HT6 := Lib.hid (show CB w6 T _ _ by rw [← hw6]; exact HT.out.drewN nq)
                  have HDr6 := Lib.hid (show w6.ownsRow (T + 1) 3 1 _ _ _ by rw [← hw6]; exact own_drewN HDr.out nq)
                  have HMr6 := Lib.hid (show w6.ownsRow (T + 1) 3 1 _ _ _ by rw [← hw6]; exact own_drewN HMr.out nq)
                  have HG6 := Lib.hid (show GrownX (fun x => x = r ∨ T ≤ x) wa w6 by rw [← hw6]; exact HG.out.drewN nq)
                  have HAt6 := Lib.hid (show w6.ownsRow r 3 1 _ _ _ by rw [← hw6]; exact own_drewN HAt.out nq)
                  have HBr6 := Lib.hid (show Below N w w6 by rw [← hw6]; exact Below.drewN' HBr.out nq)
                  have HCt6 := Lib.hid (show w6.ownsRow N 3 1 _ _ _ by rw [← hw6]; exact own_drewN HCtr.out nq)
                  have ca6 : w6.cell? ⟨r, d, none⟩ = some (.int .i64 (a : Int)) := by rw [← hw6]; exact ca
                  have cm6 : w6.cell? ⟨gmn, d, none⟩ = some (.slice Ac nn cc) := by rw [← hw6]; exact cm2
                  rw [hw6]
                  have lb16 := World.block_lt_of_cell? _ _ ca6
                  have lb36 := World.block_lt_of_cell? _ _ cm6
                  simp only at lb16 lb36
                  clear hw6 HT HDr HMr HG HAt HBr HCtr HNmr ca cs cm2 lb1 lb2 lb3 HFx
                  go_upto_if 185 with fail
                  cases bw with
                  | false =>
                    have hw0 : W d s = 0 := by have := HBw.out; simp at this; exact this
                    have hpe : pD W (d + 1) s = dl ∧ pM W (d + 1) s = ml := by rw [pD_succ, pM_succ, hw0, Hdl.out, Hml.out]; simp
                    have Hpe := Lib.hid hpe
                    have Hat := Lib.hid (show atM D (nixK D) q (d + 1) = atM D (nixK D) q d from atM_same (by rcases HRst.out with ⟨h1, _⟩ | ⟨_, _, h3⟩; exact absurd h1 (by omega); rw [Ha.out]; exact h3))
                    clear hpe hw0
                    go_wp2_with fail
                    go_roundw
                    case rel =>
                      refine ⟨d + 1, Ad, cd, Am, cm, by omega, by go_num, hcd, hcm, ?_⟩
                      rw [Hpe.out.1, Hpe.out.2, Hat.out, Hn5.out]
                      exact ⟨HT6.out, HDr6.out, HMr6.out, HAp.out, HG6.out, HAt6.out, HBr6.out⟩
                    case measure => simp [intOf]; omega
                  | true =>
                    have hw1 : 0 < W d s := by have := HBw.out; simpa using this
                    obtain ⟨hnm, hct, haq⟩ : (nmL D d)[a]? = some s ∧ (ctL D d)[a]? = some ((W d s : Nat) : Int) ∧ aq (nixK D) (nmL D d) (q + 1) = a + 1 := by
                      rcases HRst.out with ⟨_, h2, h3, h4⟩ | ⟨h1, _⟩
                      · exact ⟨h2, h3, h4⟩
                      · omega
                    have han : a < nn := by have := (List.getElem?_eq_some_iff.1 hnm).1; rw [Hnn.out] at this; exact this
                    obtain ⟨gc, hgc, _, _⟩ := hAc2 (by omega)
                    subst hgc
                    obtain ⟨cnt, hcnt⟩ : ∃ x : Int, ((W d s : Nat) : Int) = x := ⟨_, rfl⟩
                    rw [hcnt] at hct
                    have Hcnt := Lib.hid hcnt
                    have hcs : w6.ownsRow N 3 1 (.slice (some ⟨gc, 0, none⟩) nn cc) nn (intCells (ctL D d)) := by have h9 := HCt6.out; rw [HccE.out, Hnn.out] at h9; exact h9
                    have cc6 : w6.cell? ⟨gc, a, none⟩ = some (.int .i64 cnt) := own_cell hcs (by simp [intCells, hct])
                    have hg2 : gc < r := HCf2.out gc rfl
                    have HPe := Lib.hid (show pD W (d + 1) s = dl ++ [(d : Int)] ∧ pM W (d + 1) s = ml ++ [cnt] by rw [pD_succ, pM_succ, Hdl.out, Hml.out, if_pos hw1, if_pos hw1, hcnt]; exact ⟨rfl, rfl⟩)
                    have HAq := Lib.hid (show atM D (nixK D) q (d + 1) = (atM D (nixK D) q d).set d ((a : Int) + 1) by rw [atM_step hdt (by rw [haq, Ha.out]), Ha.out])
                    have hNP : ∀ b, (Value.slice Ad n5 cd).ownBlock = some b ∨ (Value.slice Am n5 cm).ownBlock = some b → T < b := fun b hb => by
                      rcases hb with hb | hb
                      · have := (HDr6.out.lt b hb).1; omega
                      · have := (HMr6.out.lt b hb).1; omega
                    have HNP := Lib.hid hNP
                    have HZ10 := Lib.hid (show ∀ w', GrownX (fun b => (Value.slice Ad n5 cd).ownBlock = some b ∨ (Value.slice Am n5 cm).ownBlock = some b) w6.drew w' → w'.cell? ⟨gmn, d, none⟩ = some (.slice (some ⟨gc, 0, none⟩) nn cc) from fun w' g => GrownX.cell g cm6 (fun e => by have := HNP.out _ e; omega))
                    have HZ14 := Lib.hid (show ∀ w', GrownX (fun b => (Value.slice Ad n5 cd).ownBlock = some b ∨ (Value.slice Am n5 cm).ownBlock = some b) w6.drew w' → w'.cell? ⟨r, d, none⟩ = some (.int .i64 (a : Int)) from fun w' g => GrownX.cell g ca6 (fun e => by have := HNP.out _ e; omega))
                    have HZ16 := Lib.hid (show ∀ w', GrownX (fun b => (Value.slice Ad n5 cd).ownBlock = some b ∨ (Value.slice Am n5 cm).ownBlock = some b) w6.drew w' → w'.cell? ⟨gc, a, none⟩ = some (.int .i64 cnt) from fun w' g => GrownX.cell g cc6 (fun e => by have := HNP.out _ e; omega))
                    have HZl := Lib.hid (show T < w6.heap.size from HT6.out.lt)
                    have hdi : (d : Int) < (D.length : Int) := by omega
                    have hai : (a : Int) < (nn : Int) := by omega
                    have hN6 : T + 1 ≤ w6.heap.size := HT6.out.lt
                    have hn5b : n5 ≤ 121 := by omega
                    clear hnm hct haq hcnt hcs hNP hw1
                    go_upto_region 47 with fail
                    refine wp_region_any (by kernel_rfl) ?_
                    change wpAny _ _ _ _ _ _ _ w6.drew
                    refine wpAny_inv [0, 1, 2, 3, 4, 5, 6, 7, 8, 9, 10, 11, 12, 13, 14, 15, 16, 17, 18, 19, 20, 21, 22] (IR47 (fun x0 x1 x2 x3 x4 x5 x6 x7 x8 x9 x10 x11 x12 x13 x14 x15 x16 x17 x18 x19 x21 => (⟨#[Value.slice A D.length c, undef, Value.pointer (some { block := N, off := 0 }), Value.int IntKind.i64 0, Value.int IntKind.i64 0, Value.pointer (some { block := X, off := 0 }), Value.slice A3 (allW D).length c3, Value.slice (some { block := gmn, off := 0 }) D.length c5, Value.slice (some { block := gst, off := 0 }) D.length c4, undef, u10, u11, u12, u13, undef, u15, undef, u17, u18, u19, u20, u21, Value.slice (some { block := r, off := 0 }) D.length D.length, undef, Value.string (str0 s), Value.pointer (some { block := T, off := 0 }), Value.int IntKind.i64 ((d : Nat) : Int), Value.slice A D.length c, Value.int IntKind.i64 0, Value.int IntKind.i64 0, Value.bool false, undef, undef, Value.agg #[Value.slice none 0 0, Value.slice none 0 0, Value.slice none 0 0], Value.slice A D.length c, Value.int IntKind.i64 ((D.length : Nat) : Int), Value.slice (some { block := X + 1, off := 0 }) 0 D.length, Value.slice A D.length c, Value.int IntKind.i64 ((D.length : Nat) : Int), Value.int IntKind.i64 ((D.length : Nat) : Int), Value.bool false, u41, u42, u43, u44, u45, u46, u47, u48, u49, u50, u51, u52, u53, u54, u55, u56, u57, u58, u59, u60, u61, u62, u63, u64, u65, u66, u67, u68, u69, u70, u71, u72, u73, u74, u75, u76, u77, u78, u79, u80, u81, u82, u83, u84, u85, u86, u87, u88, u89, u90, u91, u92, u93, u94, u95, u96, u97, u98, u99, u100, u101, u102, u103, u104, u105, u106, u107, u108, u109, u110, u111, u112, u113, u114, u115, u116, u117, u118, u119, u120, u121, u122, u123, u124, u125, u126, u127, u128, u129, u130, u131, u132, u133, u134, u135, u136, u137, u138, u139, u140, u141, u142, u143, u144, Value.slice A D.length c, Value.int IntKind.i64 ((D.length : Nat) : Int), Value.slice (some { block := r, off := 0 }) D.length D.length, Value.slice A3 (allW D).length c3, Value.slice (some { block := gS, off := 0 }) nK c7, Value.int IntKind.i64 ((nK : Nat) : Int), Value.int IntKind.i64 ((q : Nat) : Int), Value.bool true, Value.pointer (some { block := gS, off := q }), Value.string (str0 s), Value.string (str0 s), Value.agg #[Value.string (str0 s), Value.slice none 0 0, Value.slice none 0 0], Value.slice A D.length c, Value.int IntKind.i64 ((D.length : Nat) : Int), Value.int IntKind.i64 ((d : Nat) : Int), u160, u161, u162, u163, u164, u165, u166, u167, u168, u169, u170, u171, u172, u173, u174, u175, u176, u177, u178, u179, u180, u181, u182, u183, u184, Value.bool true, x0, x1, x2, x3, x4, x5, x6, x7, x8, x9, x10, x11, x12, x13, x14, x15, x16, x17, x18, x19, x21, u207, u208, u209, u210, u211, u212, u213, u214, u215, u216, u217, u218, u219, u220, undef, undef, undef, undef, undef, undef], []⟩ : Act)) (T + 1) T Ad Am n5 cd cm ((d : Nat) : Int) cnt d a gmn gc r D.length c5 nn cc dl ml (str0 s) w6.drew) #[true, true, true, true, true, true, true, true, true, true, true, true, true, true, true, true, true, true, true, true, true, true, true] (g := 0) (by kernel_rfl) (by kernel_rfl) (by kernel_rfl) (IR47.start u186 u187 u188 u189 u190 u191 u192 u193 u194 u195 u196 u197 u198 u199 u200 u201 u202 u203 u204 u205 u206 rfl (W47.start HT6.out.drew hN6 (own_drew HDr6.out) (own_drew HMr6.out) HAp.out)) ?step ?last
                    case step =>
                      intro i hi L a' w' hs hr hI
                      obtain ⟨x0, x1, x2, x3, x4, x5, x6, x7, x8, x9, x10, x11, x12, x13, x14, x15, x16, x17, x18, x19, x21, rfl, hS, h0, h1, h2, h3, h4, h5, h6, h7, h8, h9, h10, h11, h12, h13, h14, h15, h16, h17, h18, h19, h21⟩ := hI
                      simp only [List.mem_cons, List.not_mem_nil, or_false] at hi
                      rcases hi with rfl | rfl | rfl | rfl | rfl | rfl | rfl | rfl | rfl | rfl | rfl | rfl | rfl | rfl | rfl | rfl | rfl | rfl | rfl | rfl | rfl | rfl | rfl
                      · have n20 := not_yet (k := 20) hs hr (by kernel_rfl)
                        have n22 := not_yet (k := 22) hs hr (by kernel_rfl)
                        have hW := hS.w0 n20
                        have zl := hW.ht.lt
                        refine wpOp_step rfl (fun K hK => ?_)
                        go_simp
                        exact hK _ _ ⟨_, _, _, _, _, _, _, _, _, _, _, _, _, _, _, _, _, _, _, _, _, rfl, WS47.same (by decide) (by decide) (by decide) (by decide) hS, fun _ => rfl, (fun h => h1 (getD_was (by decide) h)), (fun h => h2 (getD_was (by decide) h)), (fun h h' => h3 (getD_was (by decide) h) (by rw [← getD_set_ne false (show 0 ≠ 4 by decide)]; exact h')), (fun h => h4 (getD_was (by decide) h)), (fun h => h5 (getD_was (by decide) h)), (fun h => h6 (getD_was (by decide) h)), (fun h => h7 (getD_was (by decide) h)), (fun h => h8 (getD_was (by decide) h)), (fun h => h9 (getD_was (by decide) h)), (fun h => h10 (getD_was (by decide) h)), (fun h => h11 (getD_was (by decide) h)), (fun h => h12 (getD_was (by decide) h)), (fun h => h13 (getD_was (by decide) h)), (fun h => h14 (getD_was (by decide) h)), (fun h => h15 (getD_was (by decide) h)), (fun h => h16 (getD_was (by decide) h)), (fun h h' => h17 (getD_was (by decide) h) (by rw [← getD_set_ne false (show 0 ≠ 18 by decide)]; exact h')), (fun h => h18 (getD_was (by decide) h)), (fun h => h19 (getD_was (by decide) h)), (fun h => h21 (getD_was (by decide) h))⟩
                      · have n20 := not_yet (k := 20) hs hr (by kernel_rfl)
                        have n22 := not_yet (k := 22) hs hr (by kernel_rfl)
                        have hW := hS.w0 n20
                        have q0 := h0 (ready_dep hr (by kernel_rfl))
                        subst q0
                        have z := hW.ht.c 1
                        simp only [List.getElem?_toArray, List.getElem?_cons_zero, List.getElem?_cons_succ] at z
                        refine wpOp_step rfl (fun K hK => ?_)
                        go_simp
                        exact hK _ _ ⟨_, _, _, _, _, _, _, _, _, _, _, _, _, _, _, _, _, _, _, _, _, rfl, WS47.same (by decide) (by decide) (by decide) (by decide) hS, fun _ => rfl, fun _ => rfl, (fun h => h2 (getD_was (by decide) h)), (fun h h' => h3 (getD_was (by decide) h) (by rw [← getD_set_ne false (show 1 ≠ 4 by decide)]; exact h')), (fun h => h4 (getD_was (by decide) h)), (fun h => h5 (getD_was (by decide) h)), (fun h => h6 (getD_was (by decide) h)), (fun h => h7 (getD_was (by decide) h)), (fun h => h8 (getD_was (by decide) h)), (fun h => h9 (getD_was (by decide) h)), (fun h => h10 (getD_was (by decide) h)), (fun h => h11 (getD_was (by decide) h)), (fun h => h12 (getD_was (by decide) h)), (fun h => h13 (getD_was (by decide) h)), (fun h => h14 (getD_was (by decide) h)), (fun h => h15 (getD_was (by decide) h)), (fun h => h16 (getD_was (by decide) h)), (fun h h' => h17 (getD_was (by decide) h) (by rw [← getD_set_ne false (show 1 ≠ 18 by decide)]; exact h')), (fun h => h18 (getD_was (by decide) h)), (fun h => h19 (getD_was (by decide) h)), (fun h => h21 (getD_was (by decide) h))⟩
                      · have n20 := not_yet (k := 20) hs hr (by kernel_rfl)
                        have n22 := not_yet (k := 22) hs hr (by kernel_rfl)
                        have hW := hS.w0 n20
                        refine wpOp_step rfl (fun K hK => ?_)
                        go_simp
                        exact hK _ _ ⟨_, _, _, _, _, _, _, _, _, _, _, _, _, _, _, _, _, _, _, _, _, rfl, WS47.same (by decide) (by decide) (by decide) (by decide) hS, (fun h => h0 (getD_was (by decide) h)), (fun h => h1 (getD_was (by decide) h)), fun _ => rfl, (fun h h' => h3 (getD_was (by decide) h) (by rw [← getD_set_ne false (show 2 ≠ 4 by decide)]; exact h')), (fun h => h4 (getD_was (by decide) h)), (fun h => h5 (getD_was (by decide) h)), (fun h => h6 (getD_was (by decide) h)), (fun h => h7 (getD_was (by decide) h)), (fun h => h8 (getD_was (by decide) h)), (fun h => h9 (getD_was (by decide) h)), (fun h => h10 (getD_was (by decide) h)), (fun h => h11 (getD_was (by decide) h)), (fun h => h12 (getD_was (by decide) h)), (fun h => h13 (getD_was (by decide) h)), (fun h => h14 (getD_was (by decide) h)), (fun h => h15 (getD_was (by decide) h)), (fun h => h16 (getD_was (by decide) h)), (fun h h' => h17 (getD_was (by decide) h) (by rw [← getD_set_ne false (show 2 ≠ 18 by decide)]; exact h')), (fun h => h18 (getD_was (by decide) h)), (fun h => h19 (getD_was (by decide) h)), (fun h => h21 (getD_was (by decide) h))⟩
                      · have n20 := not_yet (k := 20) hs hr (by kernel_rfl)
                        have n22 := not_yet (k := 22) hs hr (by kernel_rfl)
                        have hW := hS.w0 n20
                        have q2 := h2 (ready_dep hr (by kernel_rfl))
                        subst q2
                        refine wpOp_step rfl (fun K hK => ?_)
                        go_simp
                        exact hK _ _ ⟨_, _, _, _, _, _, _, _, _, _, _, _, _, _, _, _, _, _, _, _, _, rfl, WS47.before (by decide) (by decide) n20 n22 (W47.step (by decide) (by decide) (hW.alloc _)), (fun h => h0 (getD_was (by decide) h)), (fun h => h1 (getD_was (by decide) h)), fun _ => rfl, (fun _ _ => ⟨_, rfl, hW.hb.size, by rw [World.size_alloc]; omega, CB.new _ _ _⟩), (fun h => h4 (getD_was (by decide) h)), (fun h => h5 (getD_was (by decide) h)), (fun h => h6 (getD_was (by decide) h)), (fun h => h7 (getD_was (by decide) h)), (fun h => h8 (getD_was (by decide) h)), (fun h => h9 (getD_was (by decide) h)), (fun h => h10 (getD_was (by decide) h)), (fun h => h11 (getD_was (by decide) h)), (fun h => h12 (getD_was (by decide) h)), (fun h => h13 (getD_was (by decide) h)), (fun h => h14 (getD_was (by decide) h)), (fun h => h15 (getD_was (by decide) h)), (fun h => h16 (getD_was (by decide) h)), (fun h h' => (by obtain ⟨q1, q2, q3, q4⟩ := h17 (getD_was (by decide) h) (by rw [← getD_set_ne false (show 3 ≠ 18 by decide)]; exact h'); exact ⟨q1, q2, q3.alloc _, q4⟩)), (fun h => h18 (getD_was (by decide) h)), (fun h => h19 (getD_was (by decide) h)), (fun h => h21 (getD_was (by decide) h))⟩
                      · have n20 := not_yet (k := 20) hs hr (by kernel_rfl)
                        have n22 := not_yet (k := 22) hs hr (by kernel_rfl)
                        have hW := hS.w0 n20
                        have q1 := h1 (ready_dep hr (by kernel_rfl))
                        subst q1
                        have hL4 := ready_un hr
                        obtain ⟨hL9, hO1, hO2, hAp⟩ := hW.h0 hL4
                        obtain ⟨gd, rfl, hgdW, hgd, hcd⟩ := h3 (ready_dep hr (by kernel_rfl)) hL4
                        have hsz := hW.hb.size
                        have hNW := hW.hN
                        refine wpOp_step rfl (fun K hK => ?_)
                        refine step_pushR rfl (.tmp 187) (.tmp 189) 23 rfl (T + 1) 3 _ 1 8 Tryz.underlying23 info_intR rfl (by omega) (.slice Ad n5 cd) n5 _ rfl hO1 [.int .i64 ((d : Nat) : Int)] rfl gd rfl (fun i u hk => (hcd.c i).trans (by simpa using hk)) (one_int _ _) (by omega) (by unfold maxLen; omega) (by omega) ?_
                        intro g7 k7 w7 own7 hg7 hgg7 hb7
                        have hO2' := World.ownsRow.kept hO2 hg7 hAp.symm.or
                        have hAp' := Apart.push (n := n5 + 1) (cap := k7) hAp hgg7 (own_lt hO2)
                        rw [← intCells_snoc] at own7
                        have hnw : ∀ b, (Value.slice (some ⟨g7, 0, none⟩) (n5 + 1) k7).ownBlock = some b → (Value.slice Ad n5 cd).ownBlock = some b ∨ w6.drew.heap.size ≤ b := fun b hb => by simp only [Value.ownBlock, Option.some.injEq] at hb; subst hb; rcases hgg7 with h | h; exact Or.inl h; exact Or.inr (by omega)
                        have hnew : (L.setIfInBounds 4 true).getD 4 false = true := getD_at (mem_ready.1 hr).1 false
                        have hold : (L.setIfInBounds 4 true).getD 18 false = false := by rw [getD_set_ne false (by decide)]; exact hL9
                        refine hK _ _ ⟨_, _, _, _, _, _, _, _, _, _, _, _, _, _, _, _, _, _, _, _, _, rfl, WS47.before (by decide) (by decide) n20 n22 ?_, (fun h => h0 (getD_was (by decide) h)), fun _ => rfl, (fun h => h2 (getD_was (by decide) h)), (fun _ h => by rw [getD_at (mem_ready.1 hr).1] at h; cases h), (fun _ => ⟨_, _, rfl⟩), (fun h => h5 (getD_was (by decide) h)), (fun h => h6 (getD_was (by decide) h)), (fun h => h7 (getD_was (by decide) h)), (fun h => h8 (getD_was (by decide) h)), (fun h => h9 (getD_was (by decide) h)), (fun h => h10 (getD_was (by decide) h)), (fun h => h11 (getD_was (by decide) h)), (fun h => h12 (getD_was (by decide) h)), (fun h => h13 (getD_was (by decide) h)), (fun h => h14 (getD_was (by decide) h)), (fun h => h15 (getD_was (by decide) h)), (fun h => h16 (getD_was (by decide) h)), (fun h h' => (by obtain ⟨q1, q2, q3, q4⟩ := h17 (getD_was (by decide) h) (by rw [← getD_set_ne false (show 4 ≠ 18 by decide)]; exact h'); exact ⟨q1, q2, q3.other hg7 (fun e => q4 _ e.symm rfl), q4⟩)), (fun h => h18 (getD_was (by decide) h)), (fun h => h19 (getD_was (by decide) h)), (fun h => h21 (getD_was (by decide) h))⟩
                        rw [hnew, hold]
                        exact ⟨hW.ht.push hO1 (by decide) hg7, hW.hb.trans (GrownX.of_grown hg7 (fun g hg => Or.inl hg)), hW.hN, hW.lt, (fun h => by cases h), (fun _ _ => ⟨own7, hO2', hAp', hnw⟩), (fun h => by cases h)⟩
                      · have n20 := not_yet (k := 20) hs hr (by kernel_rfl)
                        have n22 := not_yet (k := 22) hs hr (by kernel_rfl)
                        have hW := hS.w0 n20
                        have zl := hW.ht.lt
                        refine wpOp_step rfl (fun K hK => ?_)
                        go_simp
                        exact hK _ _ ⟨_, _, _, _, _, _, _, _, _, _, _, _, _, _, _, _, _, _, _, _, _, rfl, WS47.same (by decide) (by decide) (by decide) (by decide) hS, (fun h => h0 (getD_was (by decide) h)), (fun h => h1 (getD_was (by decide) h)), (fun h => h2 (getD_was (by decide) h)), (fun h h' => h3 (getD_was (by decide) h) (by rw [← getD_set_ne false (show 5 ≠ 4 by decide)]; exact h')), (fun h => h4 (getD_was (by decide) h)), fun _ => rfl, (fun h => h6 (getD_was (by decide) h)), (fun h => h7 (getD_was (by decide) h)), (fun h => h8 (getD_was (by decide) h)), (fun h => h9 (getD_was (by decide) h)), (fun h => h10 (getD_was (by decide) h)), (fun h => h11 (getD_was (by decide) h)), (fun h => h12 (getD_was (by decide) h)), (fun h => h13 (getD_was (by decide) h)), (fun h => h14 (getD_was (by decide) h)), (fun h => h15 (getD_was (by decide) h)), (fun h => h16 (getD_was (by decide) h)), (fun h h' => h17 (getD_was (by decide) h) (by rw [← getD_set_ne false (show 5 ≠ 18 by decide)]; exact h')), (fun h => h18 (getD_was (by decide) h)), (fun h => h19 (getD_was (by decide) h)), (fun h => h21 (getD_was (by decide) h))⟩
                      · have n20 := not_yet (k := 20) hs hr (by kernel_rfl)
                        have n22 := not_yet (k := 22) hs hr (by kernel_rfl)
                        have hW := hS.w0 n20
                        have q5 := h5 (ready_dep hr (by kernel_rfl))
                        subst q5
                        have z := hW.ht.c 2
                        simp only [List.getElem?_toArray, List.getElem?_cons_zero, List.getElem?_cons_succ] at z
                        refine wpOp_step rfl (fun K hK => ?_)
                        go_simp
                        exact hK _ _ ⟨_, _, _, _, _, _, _, _, _, _, _, _, _, _, _, _, _, _, _, _, _, rfl, WS47.same (by decide) (by decide) (by decide) (by decide) hS, (fun h => h0 (getD_was (by decide) h)), (fun h => h1 (getD_was (by decide) h)), (fun h => h2 (getD_was (by decide) h)), (fun h h' => h3 (getD_was (by decide) h) (by rw [← getD_set_ne false (show 6 ≠ 4 by decide)]; exact h')), (fun h => h4 (getD_was (by decide) h)), fun _ => rfl, fun _ => rfl, (fun h => h7 (getD_was (by decide) h)), (fun h => h8 (getD_was (by decide) h)), (fun h => h9 (getD_was (by decide) h)), (fun h => h10 (getD_was (by decide) h)), (fun h => h11 (getD_was (by decide) h)), (fun h => h12 (getD_was (by decide) h)), (fun h => h13 (getD_was (by decide) h)), (fun h => h14 (getD_was (by decide) h)), (fun h => h15 (getD_was (by decide) h)), (fun h => h16 (getD_was (by decide) h)), (fun h h' => h17 (getD_was (by decide) h) (by rw [← getD_set_ne false (show 6 ≠ 18 by decide)]; exact h')), (fun h => h18 (getD_was (by decide) h)), (fun h => h19 (getD_was (by decide) h)), (fun h => h21 (getD_was (by decide) h))⟩
                      · have n20 := not_yet (k := 20) hs hr (by kernel_rfl)
                        have n22 := not_yet (k := 22) hs hr (by kernel_rfl)
                        have hW := hS.w0 n20
                        refine wpOp_step rfl (fun K hK => ?_)
                        go_simp
                        exact hK _ _ ⟨_, _, _, _, _, _, _, _, _, _, _, _, _, _, _, _, _, _, _, _, _, rfl, WS47.same (by decide) (by decide) (by decide) (by decide) hS, (fun h => h0 (getD_was (by decide) h)), (fun h => h1 (getD_was (by decide) h)), (fun h => h2 (getD_was (by decide) h)), (fun h h' => h3 (getD_was (by decide) h) (by rw [← getD_set_ne false (show 7 ≠ 4 by decide)]; exact h')), (fun h => h4 (getD_was (by decide) h)), (fun h => h5 (getD_was (by decide) h)), (fun h => h6 (getD_was (by decide) h)), fun _ => rfl, (fun h => h8 (getD_was (by decide) h)), (fun h => h9 (getD_was (by decide) h)), (fun h => h10 (getD_was (by decide) h)), (fun h => h11 (getD_was (by decide) h)), (fun h => h12 (getD_was (by decide) h)), (fun h => h13 (getD_was (by decide) h)), (fun h => h14 (getD_was (by decide) h)), (fun h => h15 (getD_was (by decide) h)), (fun h => h16 (getD_was (by decide) h)), (fun h h' => h17 (getD_was (by decide) h) (by rw [← getD_set_ne false (show 7 ≠ 18 by decide)]; exact h')), (fun h => h18 (getD_was (by decide) h)), (fun h => h19 (getD_was (by decide) h)), (fun h => h21 (getD_was (by decide) h))⟩
                      · have n20 := not_yet (k := 20) hs hr (by kernel_rfl)
                        have n22 := not_yet (k := 22) hs hr (by kernel_rfl)
                        have hW := hS.w0 n20
                        refine wpOp_step rfl (fun K hK => ?_)
                        go_simp
                        exact hK _ _ ⟨_, _, _, _, _, _, _, _, _, _, _, _, _, _, _, _, _, _, _, _, _, rfl, WS47.same (by decide) (by decide) (by decide) (by decide) hS, (fun h => h0 (getD_was (by decide) h)), (fun h => h1 (getD_was (by decide) h)), (fun h => h2 (getD_was (by decide) h)), (fun h h' => h3 (getD_was (by decide) h) (by rw [← getD_set_ne false (show 8 ≠ 4 by decide)]; exact h')), (fun h => h4 (getD_was (by decide) h)), (fun h => h5 (getD_was (by decide) h)), (fun h => h6 (getD_was (by decide) h)), (fun h => h7 (getD_was (by decide) h)), fun _ => rfl, (fun h => h9 (getD_was (by decide) h)), (fun h => h10 (getD_was (by decide) h)), (fun h => h11 (getD_was (by decide) h)), (fun h => h12 (getD_was (by decide) h)), (fun h => h13 (getD_was (by decide) h)), (fun h => h14 (getD_was (by decide) h)), (fun h => h15 (getD_was (by decide) h)), (fun h => h16 (getD_was (by decide) h)), (fun h h' => h17 (getD_was (by decide) h) (by rw [← getD_set_ne false (show 8 ≠ 18 by decide)]; exact h')), (fun h => h18 (getD_was (by decide) h)), (fun h => h19 (getD_was (by decide) h)), (fun h => h21 (getD_was (by decide) h))⟩
                      · have n20 := not_yet (k := 20) hs hr (by kernel_rfl)
                        have n22 := not_yet (k := 22) hs hr (by kernel_rfl)
                        have hW := hS.w0 n20
                        have q7 := h7 (ready_dep hr (by kernel_rfl))
                        have q8 := h8 (ready_dep hr (by kernel_rfl))
                        subst q7
                        subst q8
                        have zs := hW.hb.size
                        have zs1 := HZl.out
                        refine wpOp_step rfl (fun K hK => ?_)
                        go_simp
                        exact hK _ _ ⟨_, _, _, _, _, _, _, _, _, _, _, _, _, _, _, _, _, _, _, _, _, rfl, WS47.same (by decide) (by decide) (by decide) (by decide) hS, (fun h => h0 (getD_was (by decide) h)), (fun h => h1 (getD_was (by decide) h)), (fun h => h2 (getD_was (by decide) h)), (fun h h' => h3 (getD_was (by decide) h) (by rw [← getD_set_ne false (show 9 ≠ 4 by decide)]; exact h')), (fun h => h4 (getD_was (by decide) h)), (fun h => h5 (getD_was (by decide) h)), (fun h => h6 (getD_was (by decide) h)), fun _ => rfl, fun _ => rfl, fun _ => rfl, (fun h => h10 (getD_was (by decide) h)), (fun h => h11 (getD_was (by decide) h)), (fun h => h12 (getD_was (by decide) h)), (fun h => h13 (getD_was (by decide) h)), (fun h => h14 (getD_was (by decide) h)), (fun h => h15 (getD_was (by decide) h)), (fun h => h16 (getD_was (by decide) h)), (fun h h' => h17 (getD_was (by decide) h) (by rw [← getD_set_ne false (show 9 ≠ 18 by decide)]; exact h')), (fun h => h18 (getD_was (by decide) h)), (fun h => h19 (getD_was (by decide) h)), (fun h => h21 (getD_was (by decide) h))⟩
                      · have n20 := not_yet (k := 20) hs hr (by kernel_rfl)
                        have n22 := not_yet (k := 22) hs hr (by kernel_rfl)
                        have hW := hS.w0 n20
                        have q9 := h9 (ready_dep hr (by kernel_rfl))
                        subst q9
                        have z := HZ10.out _ hW.hb
                        refine wpOp_step rfl (fun K hK => ?_)
                        go_simp
                        exact hK _ _ ⟨_, _, _, _, _, _, _, _, _, _, _, _, _, _, _, _, _, _, _, _, _, rfl, WS47.same (by decide) (by decide) (by decide) (by decide) hS, (fun h => h0 (getD_was (by decide) h)), (fun h => h1 (getD_was (by decide) h)), (fun h => h2 (getD_was (by decide) h)), (fun h h' => h3 (getD_was (by decide) h) (by rw [← getD_set_ne false (show 10 ≠ 4 by decide)]; exact h')), (fun h => h4 (getD_was (by decide) h)), (fun h => h5 (getD_was (by decide) h)), (fun h => h6 (getD_was (by decide) h)), (fun h => h7 (getD_was (by decide) h)), (fun h => h8 (getD_was (by decide) h)), fun _ => rfl, fun _ => rfl, (fun h => h11 (getD_was (by decide) h)), (fun h => h12 (getD_was (by decide) h)), (fun h => h13 (getD_was (by decide) h)), (fun h => h14 (getD_was (by decide) h)), (fun h => h15 (getD_was (by decide) h)), (fun h => h16 (getD_was (by decide) h)), (fun h h' => h17 (getD_was (by decide) h) (by rw [← getD_set_ne false (show 10 ≠ 18 by decide)]; exact h')), (fun h => h18 (getD_was (by decide) h)), (fun h => h19 (getD_was (by decide) h)), (fun h => h21 (getD_was (by decide) h))⟩
                      · have n20 := not_yet (k := 20) hs hr (by kernel_rfl)
                        have n22 := not_yet (k := 22) hs hr (by kernel_rfl)
                        have hW := hS.w0 n20
                        refine wpOp_step rfl (fun K hK => ?_)
                        go_simp
                        exact hK _ _ ⟨_, _, _, _, _, _, _, _, _, _, _, _, _, _, _, _, _, _, _, _, _, rfl, WS47.same (by decide) (by decide) (by decide) (by decide) hS, (fun h => h0 (getD_was (by decide) h)), (fun h => h1 (getD_was (by decide) h)), (fun h => h2 (getD_was (by decide) h)), (fun h h' => h3 (getD_was (by decide) h) (by rw [← getD_set_ne false (show 11 ≠ 4 by decide)]; exact h')), (fun h => h4 (getD_was (by decide) h)), (fun h => h5 (getD_was (by decide) h)), (fun h => h6 (getD_was (by decide) h)), (fun h => h7 (getD_was (by decide) h)), (fun h => h8 (getD_was (by decide) h)), (fun h => h9 (getD_was (by decide) h)), (fun h => h10 (getD_was (by decide) h)), fun _ => rfl, (fun h => h12 (getD_was (by decide) h)), (fun h => h13 (getD_was (by decide) h)), (fun h => h14 (getD_was (by decide) h)), (fun h => h15 (getD_was (by decide) h)), (fun h => h16 (getD_was (by decide) h)), (fun h h' => h17 (getD_was (by decide) h) (by rw [← getD_set_ne false (show 11 ≠ 18 by decide)]; exact h')), (fun h => h18 (getD_was (by decide) h)), (fun h => h19 (getD_was (by decide) h)), (fun h => h21 (getD_was (by decide) h))⟩
                      · have n20 := not_yet (k := 20) hs hr (by kernel_rfl)
                        have n22 := not_yet (k := 22) hs hr (by kernel_rfl)
                        have hW := hS.w0 n20
                        refine wpOp_step rfl (fun K hK => ?_)
                        go_simp
                        exact hK _ _ ⟨_, _, _, _, _, _, _, _, _, _, _, _, _, _, _, _, _, _, _, _, _, rfl, WS47.same (by decide) (by decide) (by decide) (by decide) hS, (fun h => h0 (getD_was (by decide) h)), (fun h => h1 (getD_was (by decide) h)), (fun h => h2 (getD_was (by decide) h)), (fun h h' => h3 (getD_was (by decide) h) (by rw [← getD_set_ne false (show 12 ≠ 4 by decide)]; exact h')), (fun h => h4 (getD_was (by decide) h)), (fun h => h5 (getD_was (by decide) h)), (fun h => h6 (getD_was (by decide) h)), (fun h => h7 (getD_was (by decide) h)), (fun h => h8 (getD_was (by decide) h)), (fun h => h9 (getD_was (by decide) h)), (fun h => h10 (getD_was (by decide) h)), (fun h => h11 (getD_was (by decide) h)), fun _ => rfl, (fun h => h13 (getD_was (by decide) h)), (fun h => h14 (getD_was (by decide) h)), (fun h => h15 (getD_was (by decide) h)), (fun h => h16 (getD_was (by decide) h)), (fun h h' => h17 (getD_was (by decide) h) (by rw [← getD_set_ne false (show 12 ≠ 18 by decide)]; exact h')), (fun h => h18 (getD_was (by decide) h)), (fun h => h19 (getD_was (by decide) h)), (fun h => h21 (getD_was (by decide) h))⟩
                      · have n20 := not_yet (k := 20) hs hr (by kernel_rfl)
                        have n22 := not_yet (k := 22) hs hr (by kernel_rfl)
                        have hW := hS.w0 n20
                        have q11 := h11 (ready_dep hr (by kernel_rfl))
                        have q12 := h12 (ready_dep hr (by kernel_rfl))
                        subst q11
                        subst q12
                        have zs := hW.hb.size
                        have zs1 := HZl.out
                        refine wpOp_step rfl (fun K hK => ?_)
                        go_simp
                        exact hK _ _ ⟨_, _, _, _, _, _, _, _, _, _, _, _, _, _, _, _, _, _, _, _, _, rfl, WS47.same (by decide) (by decide) (by decide) (by decide) hS, (fun h => h0 (getD_was (by decide) h)), (fun h => h1 (getD_was (by decide) h)), (fun h => h2 (getD_was (by decide) h)), (fun h h' => h3 (getD_was (by decide) h) (by rw [← getD_set_ne false (show 13 ≠ 4 by decide)]; exact h')), (fun h => h4 (getD_was (by decide) h)), (fun h => h5 (getD_was (by decide) h)), (fun h => h6 (getD_was (by decide) h)), (fun h => h7 (getD_was (by decide) h)), (fun h => h8 (getD_was (by decide) h)), (fun h => h9 (getD_was (by decide) h)), (fun h => h10 (getD_was (by decide) h)), fun _ => rfl, fun _ => rfl, fun _ => rfl, (fun h => h14 (getD_was (by decide) h)), (fun h => h15 (getD_was (by decide) h)), (fun h => h16 (getD_was (by decide) h)), (fun h h' => h17 (getD_was (by decide) h) (by rw [← getD_set_ne false (show 13 ≠ 18 by decide)]; exact h')), (fun h => h18 (getD_was (by decide) h)), (fun h => h19 (getD_was (by decide) h)), (fun h => h21 (getD_was (by decide) h))⟩
                      · have n20 := not_yet (k := 20) hs hr (by kernel_rfl)
                        have n22 := not_yet (k := 22) hs hr (by kernel_rfl)
                        have hW := hS.w0 n20
                        have q13 := h13 (ready_dep hr (by kernel_rfl))
                        subst q13
                        have z := HZ14.out _ hW.hb
                        refine wpOp_step rfl (fun K hK => ?_)
                        go_simp
                        exact hK _ _ ⟨_, _, _, _, _, _, _, _, _, _, _, _, _, _, _, _, _, _, _, _, _, rfl, WS47.same (by decide) (by decide) (by decide) (by decide) hS, (fun h => h0 (getD_was (by decide) h)), (fun h => h1 (getD_was (by decide) h)), (fun h => h2 (getD_was (by decide) h)), (fun h h' => h3 (getD_was (by decide) h) (by rw [← getD_set_ne false (show 14 ≠ 4 by decide)]; exact h')), (fun h => h4 (getD_was (by decide) h)), (fun h => h5 (getD_was (by decide) h)), (fun h => h6 (getD_was (by decide) h)), (fun h => h7 (getD_was (by decide) h)), (fun h => h8 (getD_was (by decide) h)), (fun h => h9 (getD_was (by decide) h)), (fun h => h10 (getD_was (by decide) h)), (fun h => h11 (getD_was (by decide) h)), (fun h => h12 (getD_was (by decide) h)), fun _ => rfl, fun _ => rfl, (fun h => h15 (getD_was (by decide) h)), (fun h => h16 (getD_was (by decide) h)), (fun h h' => h17 (getD_was (by decide) h) (by rw [← getD_set_ne false (show 14 ≠ 18 by decide)]; exact h')), (fun h => h18 (getD_was (by decide) h)), (fun h => h19 (getD_was (by decide) h)), (fun h => h21 (getD_was (by decide) h))⟩
                      · have n20 := not_yet (k := 20) hs hr (by kernel_rfl)
                        have n22 := not_yet (k := 22) hs hr (by kernel_rfl)
                        have hW := hS.w0 n20
                        have q10 := h10 (ready_dep hr (by kernel_rfl))
                        have q14 := h14 (ready_dep hr (by kernel_rfl))
                        subst q10
                        subst q14
                        have zs := hW.hb.size
                        have zs1 := HZl.out
                        refine wpOp_step rfl (fun K hK => ?_)
                        go_simp
                        exact hK _ _ ⟨_, _, _, _, _, _, _, _, _, _, _, _, _, _, _, _, _, _, _, _, _, rfl, WS47.same (by decide) (by decide) (by decide) (by decide) hS, (fun h => h0 (getD_was (by decide) h)), (fun h => h1 (getD_was (by decide) h)), (fun h => h2 (getD_was (by decide) h)), (fun h h' => h3 (getD_was (by decide) h) (by rw [← getD_set_ne false (show 15 ≠ 4 by decide)]; exact h')), (fun h => h4 (getD_was (by decide) h)), (fun h => h5 (getD_was (by decide) h)), (fun h => h6 (getD_was (by decide) h)), (fun h => h7 (getD_was (by decide) h)), (fun h => h8 (getD_was (by decide) h)), (fun h => h9 (getD_was (by decide) h)), fun _ => rfl, (fun h => h11 (getD_was (by decide) h)), (fun h => h12 (getD_was (by decide) h)), (fun h => h13 (getD_was (by decide) h)), fun _ => rfl, fun _ => rfl, (fun h => h16 (getD_was (by decide) h)), (fun h h' => h17 (getD_was (by decide) h) (by rw [← getD_set_ne false (show 15 ≠ 18 by decide)]; exact h')), (fun h => h18 (getD_was (by decide) h)), (fun h => h19 (getD_was (by decide) h)), (fun h => h21 (getD_was (by decide) h))⟩
                      · have n20 := not_yet (k := 20) hs hr (by kernel_rfl)
                        have n22 := not_yet (k := 22) hs hr (by kernel_rfl)
                        have hW := hS.w0 n20
                        have q15 := h15 (ready_dep hr (by kernel_rfl))
                        subst q15
                        have z := HZ16.out _ hW.hb
                        refine wpOp_step rfl (fun K hK => ?_)
                        go_simp
                        exact hK _ _ ⟨_, _, _, _, _, _, _, _, _, _, _, _, _, _, _, _, _, _, _, _, _, rfl, WS47.same (by decide) (by decide) (by decide) (by decide) hS, (fun h => h0 (getD_was (by decide) h)), (fun h => h1 (getD_was (by decide) h)), (fun h => h2 (getD_was (by decide) h)), (fun h h' => h3 (getD_was (by decide) h) (by rw [← getD_set_ne false (show 16 ≠ 4 by decide)]; exact h')), (fun h => h4 (getD_was (by decide) h)), (fun h => h5 (getD_was (by decide) h)), (fun h => h6 (getD_was (by decide) h)), (fun h => h7 (getD_was (by decide) h)), (fun h => h8 (getD_was (by decide) h)), (fun h => h9 (getD_was (by decide) h)), (fun h => h10 (getD_was (by decide) h)), (fun h => h11 (getD_was (by decide) h)), (fun h => h12 (getD_was (by decide) h)), (fun h => h13 (getD_was (by decide) h)), (fun h => h14 (getD_was (by decide) h)), fun _ => rfl, fun _ => rfl, (fun h h' => h17 (getD_was (by decide) h) (by rw [← getD_set_ne false (show 16 ≠ 18 by decide)]; exact h')), (fun h => h18 (getD_was (by decide) h)), (fun h => h19 (getD_was (by decide) h)), (fun h => h21 (getD_was (by decide) h))⟩
                      · have n20 := not_yet (k := 20) hs hr (by kernel_rfl)
                        have n22 := not_yet (k := 22) hs hr (by kernel_rfl)
                        have hW := hS.w0 n20
                        have q16 := h16 (ready_dep hr (by kernel_rfl))
                        subst q16
                        refine wpOp_step rfl (fun K hK => ?_)
                        go_simp
                        exact hK _ _ ⟨_, _, _, _, _, _, _, _, _, _, _, _, _, _, _, _, _, _, _, _, _, rfl, WS47.before (by decide) (by decide) n20 n22 (W47.step (by decide) (by decide) (hW.alloc _)), (fun h => h0 (getD_was (by decide) h)), (fun h => h1 (getD_was (by decide) h)), (fun h => h2 (getD_was (by decide) h)), (fun h h' => (by obtain ⟨q1, q2, q3, q4, q5⟩ := h3 (getD_was (by decide) h) (by rw [← getD_set_ne false (show 17 ≠ 4 by decide)]; exact h'); exact ⟨q1, q2, q3, by rw [World.size_alloc]; omega, q5.alloc _⟩)), (fun h => h4 (getD_was (by decide) h)), (fun h => h5 (getD_was (by decide) h)), (fun h => h6 (getD_was (by decide) h)), (fun h => h7 (getD_was (by decide) h)), (fun h => h8 (getD_was (by decide) h)), (fun h => h9 (getD_was (by decide) h)), (fun h => h10 (getD_was (by decide) h)), (fun h => h11 (getD_was (by decide) h)), (fun h => h12 (getD_was (by decide) h)), (fun h => h13 (getD_was (by decide) h)), (fun h => h14 (getD_was (by decide) h)), (fun h => h15 (getD_was (by decide) h)), fun _ => rfl, (fun _ _ => ⟨_, rfl, CB.new _ _ _, fun b hb => by have h9 := hW.lt b hb; have h8 := hW.hb.size; omega⟩), (fun h => h18 (getD_was (by decide) h)), (fun h => h19 (getD_was (by decide) h)), (fun h => h21 (getD_was (by decide) h))⟩
                      · have n20 := not_yet (k := 20) hs hr (by kernel_rfl)
                        have n22 := not_yet (k := 22) hs hr (by kernel_rfl)
                        have hW := hS.w0 n20
                        have q6 := h6 (ready_dep hr (by kernel_rfl))
                        subst q6
                        have hL9 := ready_un hr
                        have hL4 := ready_dep hr (show (depsOf _ _ 18).contains 4 = true by kernel_rfl)
                        obtain ⟨hO1, hO2, hAp, hnw⟩ := hW.h1 hL4 hL9
                        obtain ⟨gi, rfl, hci, _⟩ := h17 (ready_dep hr (by kernel_rfl)) hL9
                        have hsz := hW.hb.size
                        have hNW := hW.hN
                        refine wpOp_step rfl (fun K hK => ?_)
                        refine step_pushR rfl (.tmp 192) (.tmp 203) 23 rfl (T + 1) 3 _ 1 8 Tryz.underlying23 info_intR rfl (by omega) (.slice Am n5 cm) n5 _ rfl hO2 [.int .i64 cnt] rfl gi rfl (fun i u hk => (hci.c i).trans (by simpa using hk)) (one_int _ _) (by omega) (by unfold maxLen; omega) (by omega) ?_
                        intro g9 k9 w9 own9 hg9 hgg9 hb9
                        have hO1' := World.ownsRow.kept hO1 hg9 hAp.or
                        have hAp' := Apart.symm (Apart.push (n := n5 + 1) (cap := k9) hAp.symm hgg9 (own_lt hO1))
                        rw [← intCells_snoc] at own9
                        have hnw2 : ∀ b, (Value.slice (some ⟨g9, 0, none⟩) (n5 + 1) k9).ownBlock = some b → (Value.slice Am n5 cm).ownBlock = some b ∨ w6.drew.heap.size ≤ b := fun b hb => by simp only [Value.ownBlock, Option.some.injEq] at hb; subst hb; rcases hgg9 with h | h; exact Or.inl h; exact Or.inr (by omega)
                        have hnew : (L.setIfInBounds 18 true).getD 18 false = true := getD_at (mem_ready.1 hr).1 false
                        have hold : (L.setIfInBounds 18 true).getD 4 false = true := by rw [getD_set_ne false (by decide)]; exact hL4
                        refine hK _ _ ⟨_, _, _, _, _, _, _, _, _, _, _, _, _, _, _, _, _, _, _, _, _, rfl, WS47.before (by decide) (by decide) n20 n22 ?_, (fun h => h0 (getD_was (by decide) h)), (fun h => h1 (getD_was (by decide) h)), (fun h => h2 (getD_was (by decide) h)), (fun _ h' => by rw [hold] at h'; cases h'), (fun h => h4 (getD_was (by decide) h)), (fun h => h5 (getD_was (by decide) h)), fun _ => rfl, (fun h => h7 (getD_was (by decide) h)), (fun h => h8 (getD_was (by decide) h)), (fun h => h9 (getD_was (by decide) h)), (fun h => h10 (getD_was (by decide) h)), (fun h => h11 (getD_was (by decide) h)), (fun h => h12 (getD_was (by decide) h)), (fun h => h13 (getD_was (by decide) h)), (fun h => h14 (getD_was (by decide) h)), (fun h => h15 (getD_was (by decide) h)), (fun h => h16 (getD_was (by decide) h)), (fun _ h => by rw [getD_at (mem_ready.1 hr).1] at h; cases h), (fun _ => ⟨_, _, rfl⟩), (fun h => h19 (getD_was (by decide) h)), (fun h => h21 (getD_was (by decide) h))⟩
                        rw [hnew, hold]
                        exact ⟨hW.ht.push hO2 (by decide) hg9, hW.hb.trans (GrownX.of_grown hg9 (fun g hg => Or.inr hg)), hW.hN, hW.lt, (fun h => by cases h), (fun _ h => by cases h), (fun _ => ⟨hO1', own9, hAp', hnw, hnw2⟩)⟩
                      · have n20 := not_yet (k := 20) hs hr (by kernel_rfl)
                        have n22 := not_yet (k := 22) hs hr (by kernel_rfl)
                        have hW := hS.w0 n20
                        have zl := hW.ht.lt
                        refine wpOp_step rfl (fun K hK => ?_)
                        go_simp
                        exact hK _ _ ⟨_, _, _, _, _, _, _, _, _, _, _, _, _, _, _, _, _, _, _, _, _, rfl, WS47.same (by decide) (by decide) (by decide) (by decide) hS, (fun h => h0 (getD_was (by decide) h)), (fun h => h1 (getD_was (by decide) h)), (fun h => h2 (getD_was (by decide) h)), (fun h h' => h3 (getD_was (by decide) h) (by rw [← getD_set_ne false (show 19 ≠ 4 by decide)]; exact h')), (fun h => h4 (getD_was (by decide) h)), (fun h => h5 (getD_was (by decide) h)), (fun h => h6 (getD_was (by decide) h)), (fun h => h7 (getD_was (by decide) h)), (fun h => h8 (getD_was (by decide) h)), (fun h => h9 (getD_was (by decide) h)), (fun h => h10 (getD_was (by decide) h)), (fun h => h11 (getD_was (by decide) h)), (fun h => h12 (getD_was (by decide) h)), (fun h => h13 (getD_was (by decide) h)), (fun h => h14 (getD_was (by decide) h)), (fun h => h15 (getD_was (by decide) h)), (fun h => h16 (getD_was (by decide) h)), (fun h h' => h17 (getD_was (by decide) h) (by rw [← getD_set_ne false (show 19 ≠ 18 by decide)]; exact h')), (fun h => h18 (getD_was (by decide) h)), fun _ => rfl, (fun h => h21 (getD_was (by decide) h))⟩
                      · have q19 := h19 (ready_dep hr (by kernel_rfl))
                        subst q19
                        have n20 := ready_un hr
                        have n22 := not_yet (k := 22) hs hr (by kernel_rfl)
                        have hW := hS.w0 n20
                        have t4 : L.getD 4 false = true := ready_dep hr (by kernel_rfl)
                        have t18 : L.getD 18 false = true := ready_dep hr (by kernel_rfl)
                        rw [t4, t18] at hW
                        obtain ⟨g7, k7, rfl⟩ := h4 t4
                        have z := hW.ht.c 1
                        simp only [List.getElem?_toArray, List.getElem?_cons_zero, List.getElem?_cons_succ] at z
                        have zf := hW.ht.f 1
                        have zs := hW.ht.sh
                        have zl := hW.ht.lt
                        refine wpOp_step rfl (fun K hK => ?_)
                        go_simp
                        exact hK _ _ ⟨_, _, _, _, _, _, _, _, _, _, _, _, _, _, _, _, _, _, _, _, _, rfl, ⟨(fun h => by rw [getD_at (mem_ready.1 hr).1] at h; cases h), (fun _ _ => ⟨_, hW, rfl⟩), (fun h => by rw [getD_set_ne false (by decide), n22] at h; cases h)⟩, (fun h => h0 (getD_was (by decide) h)), (fun h => h1 (getD_was (by decide) h)), (fun h => h2 (getD_was (by decide) h)), (fun _ h' => by rw [getD_set_ne false (by decide), t4] at h'; cases h'), (fun h => h4 (getD_was (by decide) h)), (fun h => h5 (getD_was (by decide) h)), (fun h => h6 (getD_was (by decide) h)), (fun h => h7 (getD_was (by decide) h)), (fun h => h8 (getD_was (by decide) h)), (fun h => h9 (getD_was (by decide) h)), (fun h => h10 (getD_was (by decide) h)), (fun h => h11 (getD_was (by decide) h)), (fun h => h12 (getD_was (by decide) h)), (fun h => h13 (getD_was (by decide) h)), (fun h => h14 (getD_was (by decide) h)), (fun h => h15 (getD_was (by decide) h)), (fun h => h16 (getD_was (by decide) h)), (fun _ h' => by rw [getD_set_ne false (by decide), t18] at h'; cases h'), (fun h => h18 (getD_was (by decide) h)), fun _ => rfl, (fun h => h21 (getD_was (by decide) h))⟩
                      · have n22 := not_yet (k := 22) hs hr (by kernel_rfl)
                        have t20 : L.getD 20 false = true := ready_dep hr (by kernel_rfl)
                        obtain ⟨wz, hWz, hwz⟩ := hS.w1 t20 n22
                        have zl : T < w'.heap.size := by rw [hwz]; exact (hWz.ht.put 1 x4).lt
                        clear hwz hWz
                        refine wpOp_step rfl (fun K hK => ?_)
                        go_simp
                        exact hK _ _ ⟨_, _, _, _, _, _, _, _, _, _, _, _, _, _, _, _, _, _, _, _, _, rfl, WS47.same (by decide) (by decide) (by decide) (by decide) hS, (fun h => h0 (getD_was (by decide) h)), (fun h => h1 (getD_was (by decide) h)), (fun h => h2 (getD_was (by decide) h)), (fun h h' => h3 (getD_was (by decide) h) (by rw [← getD_set_ne false (show 21 ≠ 4 by decide)]; exact h')), (fun h => h4 (getD_was (by decide) h)), (fun h => h5 (getD_was (by decide) h)), (fun h => h6 (getD_was (by decide) h)), (fun h => h7 (getD_was (by decide) h)), (fun h => h8 (getD_was (by decide) h)), (fun h => h9 (getD_was (by decide) h)), (fun h => h10 (getD_was (by decide) h)), (fun h => h11 (getD_was (by decide) h)), (fun h => h12 (getD_was (by decide) h)), (fun h => h13 (getD_was (by decide) h)), (fun h => h14 (getD_was (by decide) h)), (fun h => h15 (getD_was (by decide) h)), (fun h => h16 (getD_was (by decide) h)), (fun h h' => h17 (getD_was (by decide) h) (by rw [← getD_set_ne false (show 21 ≠ 18 by decide)]; exact h')), (fun h => h18 (getD_was (by decide) h)), (fun h => h19 (getD_was (by decide) h)), fun _ => rfl⟩
                      · have q21 := h21 (ready_dep hr (by kernel_rfl))
                        subst q21
                        have n22 := ready_un hr
                        have t4 : L.getD 4 false = true := ready_dep hr (by kernel_rfl)
                        have t20 : L.getD 20 false = true := ready_dep hr (by kernel_rfl)
                        have t18 : L.getD 18 false = true := ready_dep hr (by kernel_rfl)
                        obtain ⟨g9, k9, rfl⟩ := h18 t18
                        obtain ⟨wz, hW, rfl⟩ := hS.w1 t20 n22
                        have hP := hW.ht.put 1 x4
                        have z := hP.c 2
                        simp only [List.getElem?_toArray, List.getElem?_cons_zero, List.getElem?_cons_succ, List.setIfInBounds_toArray, List.set_cons_succ, List.set_cons_zero] at z
                        have zf := hP.f 2
                        have zs := hP.sh
                        have zl := hP.lt
                        refine wpOp_step rfl (fun K hK => ?_)
                        go_simp
                        exact hK _ _ ⟨_, _, _, _, _, _, _, _, _, _, _, _, _, _, _, _, _, _, _, _, _, rfl, ⟨(fun h => by rw [getD_set_ne false (by decide), t20] at h; cases h), (fun _ h => by rw [getD_at (mem_ready.1 hr).1] at h; cases h), (fun _ => ⟨wz, hW, rfl⟩)⟩, (fun h => h0 (getD_was (by decide) h)), (fun h => h1 (getD_was (by decide) h)), (fun h => h2 (getD_was (by decide) h)), (fun _ h' => by rw [getD_set_ne false (by decide), t4] at h'; cases h'), (fun h => h4 (getD_was (by decide) h)), (fun h => h5 (getD_was (by decide) h)), (fun h => h6 (getD_was (by decide) h)), (fun h => h7 (getD_was (by decide) h)), (fun h => h8 (getD_was (by decide) h)), (fun h => h9 (getD_was (by decide) h)), (fun h => h10 (getD_was (by decide) h)), (fun h => h11 (getD_was (by decide) h)), (fun h => h12 (getD_was (by decide) h)), (fun h => h13 (getD_was (by decide) h)), (fun h => h14 (getD_was (by decide) h)), (fun h => h15 (getD_was (by decide) h)), (fun h => h16 (getD_was (by decide) h)), (fun _ h' => by rw [getD_set_ne false (by decide), t18] at h'; cases h'), (fun h => h18 (getD_was (by decide) h)), (fun h => h19 (getD_was (by decide) h)), fun _ => rfl⟩
                    case last =>
                      intro a' w' hI
                      obtain ⟨x0, x1, x2, x3, x4, x5, x6, x7, x8, x9, x10, x11, x12, x13, x14, x15, x16, x17, x18, x19, x21, rfl, hS, h0, h1, h2, h3, h4, h5, h6, h7, h8, h9, h10, h11, h12, h13, h14, h15, h16, h17, h18, h19, h21⟩ := hI
                      obtain ⟨g7, k7, rfl⟩ := h4 rfl
                      obtain ⟨g9, k9, rfl⟩ := h18 rfl
                      obtain ⟨wz, hW, rfl⟩ := hS.w2 rfl
                      clear h0 h1 h2 h3 h4 h5 h6 h7 h8 h9 h10 h11 h12 h13 h14 h15 h16 h17 h18 h19 h21 hS
                      have HT9 := Lib.hid hW.ht; have HB9 := Lib.hid hW.hb; have HO9 := Lib.hid (hW.h2 rfl)
                      clear hW
                      refine wpAny_of_seqA 0 23 rfl (by kernel_rfl) ?_
                      simp only [List.drop_succ_cons, List.drop_nil]
                      obtain ⟨o1, o2, o3, o4, o5⟩ := HO9.out
                      obtain ⟨w8, hw8⟩ : ∃ x, (wz.setCell ⟨T, 1, none⟩ (.slice (some ⟨g7, 0, none⟩) (n5 + 1) k7)).setCell ⟨T, 2, none⟩ (.slice (some ⟨g9, 0, none⟩) (n5 + 1) k9) = x := ⟨_, rfl⟩
                      have HT8 := Lib.hid (show CB w8 T 44 #[.string (str0 s), .slice (some ⟨g7, 0, none⟩) (n5 + 1) k7, .slice (some ⟨g9, 0, none⟩) (n5 + 1) k9] by rw [← hw8]; exact (HT9.out.put 1 _).put 2 _)
                      have HD8 := Lib.hid (show w8.ownsRow (T + 1) 3 1 (.slice (some ⟨g7, 0, none⟩) (n5 + 1) k7) (n5 + 1) (intCells (dl ++ [(d : Int)])) by rw [← hw8]; exact own_setT (own_setT o1 HT9.out (by decide) _) (HT9.out.put 1 _) (by decide) _)
                      have HM8 := Lib.hid (show w8.ownsRow (T + 1) 3 1 (.slice (some ⟨g9, 0, none⟩) (n5 + 1) k9) (n5 + 1) (intCells (ml ++ [cnt])) by rw [← hw8]; exact own_setT (own_setT o2 HT9.out (by decide) _) (HT9.out.put 1 _) (by decide) _)
                      have HAp8 := Lib.hid o3
                      have HG68 := Lib.hid (show GrownX (fun x => T ≤ x) w6 w8 by rw [← hw8]; exact (((GrownX.refl _ w6).drew.trans (HB9.out.mono (fun x _ hx => Nat.le_of_lt (HNP.out x hx)))).set (Or.inl (Nat.le_refl T)) 1 _).set (Or.inl (Nat.le_refl T)) 2 _)
                      rw [hw8]
                      clear hw8 o1 o2 o3 o4 o5 HO9 HT9 HB9 HT6 HDr6 HMr6
                      have HG8 := Lib.hid (HG6.out.trans (HG68.out.mono (fun x _ hx => Or.inr hx)))
                      have HAt8 := Lib.hid (own_keepX HAt6.out HG68.out (fun b hb e => by simp only [Value.ownBlock, Option.some.injEq] at hb; omega))
                      have HBr8 := Lib.hid (HBr6.out.trans (HG68.out.below (by have := HZl.out; omega) (fun x hx => by omega)))
                      have ca8 : w8.cell? ⟨r, d, none⟩ = some (.int .i64 (a : Int)) := GrownX.cell HG68.out ca6 (by omega)
                      have cf8 : w8.frozen? ⟨r, d, none⟩ = false := own_frozen HAt8.out
                      have lb8 := World.block_lt_of_cell? _ _ ca8
                      simp only at lb8
                      have e3 : IntKind.i64.wrap ((a : Int) + 1) = (a : Int) + 1 := IntWalk.i64_in _ (by omega)
                      have hTr : T ≠ r := by omega
                      go_wp2_with fail
                      go_roundw
                      case rel =>
                        have g1 := GrownX.one0 w8 r d (.int .i64 ((a : Int) + 1))
                        refine ⟨d + 1, some ⟨g7, 0, none⟩, k7, some ⟨g9, 0, none⟩, k9, by omega, by go_num, (by obtain ⟨_, _, he, h, _⟩ := own_form HD8.out; cases he; exact h), (by obtain ⟨_, _, he, h, _⟩ := own_form HM8.out; cases he; exact h), ?_⟩
                        rw [HPe.out.1, HPe.out.2, HAq.out, List.length_append, Hn5.out]
                        exact ⟨HT8.out.set_other hTr _, own_keepX HD8.out g1 (fun b hb e => by have := (HD8.out.lt b hb).1; omega), own_keepX HM8.out g1 (fun b hb e => by have := (HM8.out.lt b hb).1; omega), HAp8.out, HG8.out.set (Or.inl (Or.inl rfl)) d _, by rw [← intCells_set]; exact own_put HAt8.out d _, HBr8.out.setCell (p := ⟨r, d, none⟩) (show N ≤ r by have := H2.out.fx.hNX; have := H2.out.fx.hXr; omega) _⟩
                      case measure => simp [intOf]; omega
              · have hde : d = D.length := by omega
                subst hde
                have H2b := Lib.hid (H2.out.places (by rw [HTl.out]; exact HG.out) (by rw [atM_end] at HAt; exact HAt.out))
                obtain ⟨n5, hn5⟩ : ∃ x, (pD W D.length s).length = x := ⟨_, rfl⟩
                have Hn5 := Lib.hid hn5
                rw [hn5] at HT HDr HMr HAp
                clear hn5
                obtain ⟨At, ct, rfl, hct, _, _⟩ := own_form H2b.out.ot
                have hLl : L.length ≤ 1048576 := by have := HLq.out; omega
                have x2 : wb.cell? ⟨X, 2, none⟩ = some (.slice At L.length ct) := H2b.out.hx.c 2
                have x2f := H2b.out.hx.f 2
                have hXl : X < wb.heap.size := H2b.out.hx.lt
                have t0 : wb.cell? ⟨T, 0, none⟩ = some (.string (str0 s)) := HT.out.c 0
                have t1 : wb.cell? ⟨T, 1, none⟩ = some (.slice Ad n5 cd) := HT.out.c 1
                have t2 : wb.cell? ⟨T, 2, none⟩ = some (.slice Am n5 cm) := HT.out.c 2
                have tl0 : T < wb.heap.size := HT.out.lt
                have tsh := HT.out.sh
                have hNX9 : N < X := H2.out.fx.hNX
                have hXr9 : X < r := H2.out.fx.hXr
                have hdo : wb.ownsRow (r + 1) 3 1 (.slice Ad n5 cd) (nixTerm D s).docs.length (intCells (nixTerm D s).docs) := by
                  have h9 := own_base HDr.out (show r + 1 ≤ T + 1 by omega)
                  show wb.ownsRow (r + 1) 3 1 (.slice Ad n5 cd) (pD (wAt D) D.length s).length (intCells (pD (wAt D) D.length s))
                  rw [HWe.out, Hn5.out]; exact h9
                have hmo : wb.ownsRow (r + 1) 3 1 (.slice Am n5 cm) (nixTerm D s).many.length (intCells (nixTerm D s).many) := by
                  have h9 := own_base HMr.out (show r + 1 ≤ T + 1 by omega)
                  show wb.ownsRow (r + 1) 3 1 (.slice Am n5 cm) (pM (wAt D) D.length s).length (intCells (pM (wAt D) D.length s))
                  rw [pM_len, HWe.out, Hn5.out]; exact h9
                have HDo := Lib.hid hdo; have HMo := Lib.hid hmo
                clear hdo hmo
                go_wp2_with (at_builtin; go_must (refine wpList_push _ rfl (.tmp 215) (.tmp 217) 24 rfl (r + 1) 44 _ 3 64 Tryz.underlying24 info_term rfl (by omega) (.slice At L.length ct) L.length _ rfl (own_alloc H2b.out.ot _) [.string (str0 s), .slice Ad n5 cd, .slice Am n5 cm] rfl _ rfl (cell_new _ [.string (str0 s), .slice Ad n5 cd, .slice Am n5 cm] 44 _ rfl) (by intro u hu; simp at hu; rcases hu with rfl | rfl | rfl <;> rfl) (by omega) (by unfold maxLen; omega) (by simp; omega) ?_); intro g6 k6 w6 own6 hg6 hgg6 hb6; have HXb := Lib.hid (CB.push ((H2b.out.below ((Below.refl _ _).alloc (Nat.le_refl _) (.cells #[.string (str0 s), .slice Ad n5 cd, .slice Am n5 cm] 44))).hx) (own_alloc H2b.out.ot _) (by decide) hg6); have u2 : w6.cell? ⟨X, 2, none⟩ = some (.slice At L.length ct) := HXb.out.c 2; have u2f := HXb.out.f 2; have u2s := HXb.out.sh)
                have HP := Lib.hid (Ref2.push (H2b.out.below ((Below.refl _ _).alloc (Nat.le_refl _) (.cells #[.string (str0 s), .slice Ad n5 cd, .slice Am n5 cm] 44))) HSq.out (own_alloc HDo.out _) (own_alloc HMo.out _) hg6 own6)
                have HBn := Lib.hid (show Below N w (w6.setCell ⟨X, 2, none⟩ (.slice (some ⟨g6, 0, none⟩) (L.length + 1) k6)) from ((HBr.out.alloc (by omega) _).trans (hb6.mono (by omega))).setCell (p := ⟨X, 2, none⟩) (show N ≤ X by omega) _)
                clear own6 hg6 hgg6 hb6
                go_roundw
                case rel => exact ⟨q + 1, _, _, by omega, by go_num, by rw [List.length_append, HLq.out]; rfl, HP.out, HBn.out⟩
                case measure => simp [intOf]; omega
          · have hqe : q = nK := by omega
            subst hqe
            have HLq := Lib.hid hLq; clear hLq
            obtain ⟨At, ct, rfl, hct, _, _⟩ := own_form H2.out.ot
            have HO7 := Lib.hid (Ref2.own (al := atP D (nixK D) q) (by have h9 := H2.out; rw [← HnK.out] at h9; rw [← HnK.out]; exact h9) (nix_ints hL HW.out))
            have HAt := Lib.hid HO7.out.at
            have HLen := Lib.hid (nix_len hL HW.out)
            have HTb7 := Lib.hid (HTb.out.keep (by rw [HNw.out]; exact HB.out))
            have HX7 := Lib.hid H2.out.hx
            have HR7 := Lib.hid H2.out.fx.hr
            have hNX7 : N < X := H2.out.fx.hNX
            have y0 : wa.cell? ⟨X, 0, none⟩ = some (.slice A1 (nixD D).length c1) := HX7.out.c 0
            have y1 : wa.cell? ⟨X, 1, none⟩ = some (.slice A2 (nixS D).length c2) := HX7.out.c 1
            have y2 : wa.cell? ⟨X, 2, none⟩ = some (.slice At L.length ct) := HX7.out.c 2
            have ysh := HX7.out.sh
            have hXl7 : X < wa.heap.size := HX7.out.lt
            have hdl : (nixD D).length ≤ (nixS D).length := by simp [nixD, nixS]
            have htl : ∀ t ∈ nixT D, t.docs.length ≤ t.many.length := fun t ht => by (obtain ⟨s, _, rfl⟩ := List.mem_map.1 ht; exact Nat.le_of_eq (pM_len _ _ _).symm)
            have HHd := Lib.hid hdl; have HHt := Lib.hid htl
            clear hdl htl
            obtain ⟨tx, htx⟩ : ∃ tx : ByteArray, (⟨(idxT (nixD D) (nixS D) (nixT D)).toArray⟩ : ByteArray) = tx := ⟨_, rfl⟩
            have HTx := Lib.hid htx
            have HTs := Lib.hid (show tx.size = (idxT (nixD D) (nixS D) (nixT D)).length by rw [← htx, ← size_toList])
            clear htx
            have HCl := Lib.hid (indexBytes_q (nixD D) (nixS D) (nixT D) (.slice A1 (nixD D).length c1) (.slice A2 (nixS D).length c2) (.slice At L.length ct) wa HAt.out HHd.out HHt.out HLen.out HTb7.out)
            rw [HTx.out] at HCl
            have hNX2 : N ≠ X := by omega
            by_cases hbig2 : 400000 < (idxT (nixD D) (nixS D) (nixT D)).length
            · have HE4 := Lib.hid (nixE_big H0.out hbig2)
              have hb4 : (400000 : Int) < (tx.size : Int) := by rw [HTs.out]; omega
              have hHb := Lib.hid hbig2; clear hbig2
              go_wp2_with (go_at_call 19; go_must (refine HCl.out.mono ?_); rintro e w8 ⟨rfl, hb8⟩; have HB8 := Lib.hid (HB.out.trans (hb8.mono (show N ≤ wa.heap.size by omega))); have HR8 := Lib.hid (HR7.out.below hb8); have x0 : w8.cell? ⟨N, 0, none⟩ = some (.slice none 0 0) := HR8.out.c 0; have x1 : w8.cell? ⟨N, 1, none⟩ = some (.slice none 0 0) := HR8.out.c 1; have x2 : w8.cell? ⟨N, 2, none⟩ = some (.slice none 0 0) := HR8.out.c 2; have x0f := HR8.out.f 0; have x1f := HR8.out.f 1; have x2f := HR8.out.f 2; have xs := HR8.out.sh; clear hb8)
              refine idx_done rfl (((HR8.out.put 0 _).put 1 _).put 2 _) rfl rfl rfl rfl (NixPost.err HE4.out (by decide) ?_)
              exact ((HB8.out.setCell (p := ⟨N, 0, none⟩) (show N ≤ N from Nat.le_refl N) _).setCell (p := ⟨N, 1, none⟩) (show N ≤ N from Nat.le_refl N) _).setCell (p := ⟨N, 2, none⟩) (show N ≤ N from Nat.le_refl N) _
            · have HE0 := Lib.hid (nixE_ok H0.out hbig2)
              have hb4 : ¬ (400000 : Int) < (tx.size : Int) := by rw [HTs.out]; omega
              have hHb := Lib.hid hbig2; clear hbig2
              go_wp2_with (go_at_call 19; go_must (refine HCl.out.mono ?_); rintro e w8 ⟨rfl, hb8⟩; have HB8 := Lib.hid (HB.out.trans (hb8.mono (show N ≤ wa.heap.size by omega))); have HR8 := Lib.hid (HR7.out.below hb8); have HX8 := Lib.hid (HX7.out.below hb8); have HO8 := Lib.hid (HO7.out.below hb8); have x0 : w8.cell? ⟨N, 0, none⟩ = some (.slice none 0 0) := HR8.out.c 0; have x1 : w8.cell? ⟨N, 1, none⟩ = some (.slice none 0 0) := HR8.out.c 1; have x2 : w8.cell? ⟨N, 2, none⟩ = some (.slice none 0 0) := HR8.out.c 2; have x0f := HR8.out.f 0; have x1f := HR8.out.f 1; have x2f := HR8.out.f 2; have xs := HR8.out.sh; have y0 : w8.cell? ⟨X, 0, none⟩ = some (.slice A1 (nixD D).length c1) := HX8.out.c 0; have y1 : w8.cell? ⟨X, 1, none⟩ = some (.slice A2 (nixS D).length c2) := HX8.out.c 1; have y2 : w8.cell? ⟨X, 2, none⟩ = some (.slice At L.length ct) := HX8.out.c 2; have ysh8 := HX8.out.sh; have hXl8 : X < w8.heap.size := HX8.out.lt; clear hb8)
              refine idx_done rfl (((HR8.out.put 0 _).put 1 _).put 2 _) rfl rfl rfl rfl (NixPost.ok (L := L) HE0.out ?_ ?_)
              · exact ((HO8.out.box HR8.out (by decide) (by decide) (by decide) _).box (HR8.out.put 0 _) (by decide) (by decide) (by decide) _).box ((HR8.out.put 0 _).put 1 _) (by decide) (by decide) (by decide) _
              · exact ((HB8.out.setCell (p := ⟨N, 0, none⟩) (show N ≤ N from Nat.le_refl N) _).setCell (p := ⟨N, 1, none⟩) (show N ≤ N from Nat.le_refl N) _).setCell (p := ⟨N, 2, none⟩) (show N ≤ N from Nat.le_refl N) _
  · have HE := Lib.hid (show nixE D = fe from nixE_docs hfe hf0)
    have hfb : (fe != 0) = true := by simpa using hf0
    have hfn := Lib.hid hf0
    clear hfe hf0
    go_enter Tryz.func5, Tryz.ntmps5
    go_wp2_with (go_at_call 14; rw [HW0.out]; go_must (refine HDe.out.mono ?_); rintro e w1 ⟨rfl, hb1⟩; have HX3 := Lib.hid (HX0.out.below hb1); have HB3 := Lib.hid (HB0.out.trans (hb1.mono (Nat.le_of_lt HX0.out.lt))); have x0 : w1.cell? ⟨N, 0, none⟩ = some (.slice none 0 0) := HX3.out.c 0; have x1 : w1.cell? ⟨N, 1, none⟩ = some (.slice none 0 0) := HX3.out.c 1; have x2 : w1.cell? ⟨N, 2, none⟩ = some (.slice none 0 0) := HX3.out.c 2; have x0f := HX3.out.f 0; have x1f := HX3.out.f 1; have x2f := HX3.out.f 2; have xs := HX3.out.sh; clear hb1)
    refine idx_done rfl (((HX3.out.put 0 _).put 1 _).put 2 _) rfl rfl rfl rfl (NixPost.err HE.out hfn.out ?_)
    exact ((HB3.out.setCell (p := ⟨N, 0, none⟩) (show N ≤ N from Nat.le_refl N) _).setCell (p := ⟨N, 1, none⟩) (show N ≤ N from Nat.le_refl N) _).setCell (p := ⟨N, 2, none⟩) (show N ≤ N from Nat.le_refl N) _

end Go.Proofs.YtmcelgokchhpfaaGreatDoor
