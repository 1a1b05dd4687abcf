/-
  mastref1.docsError where the texts are looked at, too.
-/
import Derived.Test.YtmcelgokchhpfaaGreatDoorIdxDocs
namespace Go.Proofs.YtmcelgokchhpfaaGreatDoor
open Go.RowKit Go.ChangeShapes Go.WideShapes Go.Deep

def docF1 (l : List DocR) (k : Nat) : Int :=
  match l[k]? with
  | none => 0
  | some d => if pathV d.addr = false then 3 else if docPrev l d.addr k = true then 5 else if ctlL d.title.data.toList = true then 9 else if 200000 < d.title.size + d.text.size then 4 else 0
theorem docF1_at {l : List DocR} {k : Nat} {d : DocR} (h : l[k]? = some d) : docF1 l k = if pathV d.addr = false then 3 else if docPrev l d.addr k = true then 5 else if ctlL d.title.data.toList = true then 9 else if 200000 < d.title.size + d.text.size then 4 else 0 := by
  rw [docF1, h]
def docsFE (l : List DocR) : Int := if 120 < l.length then 4 else firstE (docF1 l) l.length 0
theorem docsFE_len {l : List DocR} (h : docsFE l = 0) : l.length ≤ 120 := by
  rw [docsFE] at h
  split at h
  · cases h
  · omega
theorem docsFE_all {l : List DocR} (h : docsFE l = 0) : ∀ d ∈ l, d.title.size + d.text.size ≤ 200000 := by
  have hl := docsFE_len h
  rw [docsFE, if_neg (by omega)] at h
  have key : ∀ (m k : Nat), l.length - k = m → firstE (docF1 l) m k = 0 → ∀ j, k ≤ j → j < l.length → docF1 l j = 0 := by
    intro m
    induction m with
    | zero => intro k hm _ j h1 h2; omega
    | succ m ih =>
      intro k hm hf j h1 h2
      rw [firstE] at hf
      split at hf
      · rename_i h0
        rcases Nat.eq_or_lt_of_le h1 with rfl | h3
        · exact h0
        · exact ih (k + 1) (by omega) hf j (by omega) h2
      · rename_i h0; exact absurd hf h0
  intro d hd
  obtain ⟨j, hj⟩ := List.getElem?_of_mem hd
  have h0 := key l.length 0 (by omega) h j (Nat.zero_le _) (List.getElem?_eq_some_iff.1 hj).1
  rw [docF1_at hj] at h0
  split at h0
  · cases h0
  · split at h0
    · cases h0
    · split at h0
      · cases h0
      · split at h0
        · cases h0
        · omega

set_option maxRecDepth 100000 in
set_option maxHeartbeats 4000000 in
theorem docsErrT_q (D : List DocR) (dv : Value) (w : World) (h : DocsAt w dv D) (hz : ∀ d ∈ D, d.addr.size ≤ 1048576 ∧ d.title.size ≤ 1048576 ∧ d.text.size ≤ 1048576) (hm : MaxAt w) :
    Calls Tryz.prog 14 #[dv, .bool true] w fun e w' => e = .returned (.int .i64 (docsFE D)) ∧ Below w.heap.size w w' := by
  obtain ⟨A, c, b, o, rfl, hlc, hc, hA, hcell⟩ := h
  unfold maxLen at hc
  have HCell := Lib.hid hcell; clear hcell
  have HM := Lib.hid hm; clear hm
  have HZ := Lib.hid hz; clear hz
  by_cases hbig : 120 < D.length
  · have HR := Lib.hid (show docsFE D = 4 by rw [docsFE, if_pos hbig])
    go_enter Tryz.func14, Tryz.ntmps14
    go_wp2_with fail
    go_ret
    exact ⟨ret_int HR.out.symm, Below.refl _ _⟩
  have HE := Lib.hid (show docsFE D = firstE (docF1 D) (D.length - 0) 0 by rw [docsFE, if_neg hbig]; rfl)
  go_enter Tryz.func14, Tryz.ntmps14
  go_wp2_with fail
  go_loopw [14] (fun t wr => ∃ k : Nat, k ≤ D.length ∧ t = .int .i64 k ∧ Hid (Below w.heap.size w wr) ∧ Hid (docsFE D = firstE (docF1 D) (D.length - k) k)) (fun t _ => D.length - (intOf t).toNat)
  case atStart => exact ⟨0, Nat.zero_le _, rfl, Below.refl _ _, HE.out⟩
  case round =>
    clear HE
    obtain ⟨k, hk, rfl, HB, HE⟩ := hrel
    obtain ⟨wo, rfl⟩ : ∃ wo : World, wo = wr := ⟨_, rfl⟩
    by_cases hlt : k < D.length
    · have hA' := hA (by rintro rfl; simp at hlt)
      subst hA'
      clear hA
      obtain ⟨⟨addr, title, text⟩, hn⟩ : ∃ n, D[k]? = some n := ⟨_, List.getElem?_eq_getElem hlt⟩
      have h1 := docF1_at hn
      simp only at h1
      have H1 := Lib.hid h1; clear h1
      obtain ⟨hza, hzt, hzx⟩ := HZ.out _ (List.mem_of_getElem? hn)
      simp only at hza hzt hzx
      obtain ⟨p0, p1, p2⟩ := (HCell.out k _ hn).keep (Keeps.of_below HB.out)
      simp only at p0 p1 p2
      have bb := World.block_lt_of_cell? _ _ p0
      simp only at bb
      have HN := Lib.hid hn; clear hn
      obtain ⟨W1, hW1⟩ : ∃ W1, wo.alloc (.cells #[.string addr, .string title, .string text] 33) = W1 := ⟨_, rfl⟩
      obtain ⟨nd, hnd⟩ : ∃ nd, wo.heap.size = nd := ⟨_, rfl⟩
      have HBs := Lib.hid HB.out.size
      have HB1 := Lib.hid (show Below w.heap.size w W1 from hW1 ▸ HB.out.alloc HBs.out _)
      have HD1 := Lib.hid (show CB W1 nd 33 #[.string addr, .string title, .string text] by rw [← hW1, ← hnd]; exact CB.new wo _ _)
      have HW1 := Lib.hid hW1
      have HNd := Lib.hid hnd
      clear hW1
      obtain ⟨pv, hpv⟩ : ∃ pv, pathV addr = pv := ⟨_, rfl⟩
      have HPV := Lib.hid hpv; clear hpv
      clear hnd
      cases pv
      · have H2 := Lib.hid (show docsFE D = 3 by rw [HE.out, firstE_bad hlt (H1.out.trans (if_pos HPV.out)) (by decide)])
        go_wp2_with (go_at_call 36; rw [HW1.out, HNd.out]; go_must (refine (pathP_q addr false HPV.out _ hza (HM.out.keep (Keeps.of_below HB1.out))).mono ?_); rintro e w1 ⟨rfl, hb⟩; have HB2 := Lib.hid (HB1.out.trans (hb.mono HB1.out.size));  clear hb)
        go_ret
        exact ⟨ret_int H2.out.symm, HB2.out⟩
      have H2 := Lib.hid (H1.out.trans (if_neg (by rw [HPV.out]; simp)))
      clear H1
      go_wp2_with (go_at_call 36; rw [HW1.out, HNd.out]; go_must (refine (pathP_q addr true HPV.out _ hza (HM.out.keep (Keeps.of_below HB1.out))).mono ?_); rintro e w1 ⟨rfl, hb⟩; have HB2 := Lib.hid (HB1.out.trans (hb.mono HB1.out.size)); have HD2 := Lib.hid (HD1.out.below hb); have d0 := HD2.out.c 0; have d1 := HD2.out.c 1; have d2 := HD2.out.c 2; have dsh := HD2.out.sh;  clear hb)
      clear HB1 HD1 HW1 HPV
      rcases Nat.eq_zero_or_pos k with hk0 | hk0
      have hk3 : ¬ (0 : Int) < k := by omega
      have H3 := Lib.hid (H2.out.trans (if_neg (by rw [hk0]; simp [docPrev])))
      clear H2
      have hk0 := Lib.hid hk0
      go_quiet (fail)
      go_wp2_with fail
      rotate_left
      obtain ⟨j, hj⟩ : ∃ j, k = j + 1 := ⟨k - 1, by omega⟩
      obtain ⟨⟨pa, pt, px⟩, hpn⟩ : ∃ n, D[j]? = some n := ⟨_, List.getElem?_eq_getElem (by omega)⟩
      obtain ⟨s0, s1, s2⟩ := (HCell.out j _ hpn).keep (Keeps.of_below HB2.out)
      simp only at s0 s1 s2
      have HPB := Lib.hid (show docPrev D addr k = lsB addr pa by rw [hj]; exact docPrev_succ (x := addr) hpn); clear hpn
      have hwr : IntKind.i64.wrap ((k : Int) - 1) = (j : Int) := by rw [show (k : Int) - 1 = (j : Int) by omega]; rw [IntKind.wrap_i64]; omega
      have hjl : j < D.length := by omega
      have hk3 : (0 : Int) < k := by omega
      have HJ := Lib.hid hj; clear hj
      have bb2 := World.block_lt_of_cell? _ _ s0
      simp only at bb2
      have hleq : ∀ W : World, Sem.run Tryz.prog (binOp BinOp.leq 9 (Value.string addr) (Value.string pa)) W = Result.ok (Value.bool (lsB addr pa)) W := fun W => rfl
      have hk0 := Lib.hid hk0
      cases hls : lsB addr pa
      have H3 := Lib.hid (H2.out.trans (if_neg (by rw [HPB.out, hls]; simp)))
      clear H2
      rw [hls] at hleq
      go_quiet (fail)
      go_wp2_with fail
      clear s0 s1 s2 bb2 hleq hwr
      rotate_left
      have H4 := Lib.hid (show docsFE D = 5 by rw [HE.out, firstE_bad hlt (H2.out.trans (if_pos (by rw [HPB.out, hls]))) (by decide)])
      clear H2
      rw [hls] at hleq
      go_quiet (fail)
      go_wp2_with fail
      go_ret
      exact ⟨ret_int H4.out.symm, Below.drewN' HB2.out _⟩
      all_goals
        (obtain ⟨w2, hw2⟩ : ∃ w2, w1.drewN nq = w2 := ⟨_, rfl⟩
         have HB3 := Lib.hid (show Below w.heap.size w w2 from hw2 ▸ Below.drewN' HB2.out _)
         have HD3 := Lib.hid (show CB w2 nd 33 #[.string addr, .string title, .string text] by rw [← hw2]; exact HD2.out)
         rw [hw2]
         clear hw2 HB2 HD2 d0 d1 d2 dsh
         have d0 := HD3.out.c 0
         have d1 := HD3.out.c 1
         have d2 := HD3.out.c 2
         have dsh := HD3.out.sh
         cases hct : ctlL title.data.toList
         · have HCt := Lib.hid hct; clear hct
           have H4 := Lib.hid (H3.out.trans (if_neg (by rw [HCt.out]; simp)))
           clear H3
           by_cases hbg : 200000 < title.size + text.size
           · have H5 := Lib.hid (show docsFE D = 4 by rw [HE.out, firstE_bad hlt (H4.out.trans (if_pos hbg)) (by decide)])
             clear H4
             have hbg2 : (200000 : Int) < (title.size : Int) + (text.size : Int) := by omega
             go_wp2_with (go_at_call 37; go_must (refine (badFF_q title false _ hzt HCt.out).mono ?_); rintro e w3 ⟨rfl, rfl⟩)
             go_ret
             exact ⟨ret_int H5.out.symm, HB3.out⟩
           · have H5 := Lib.hid (H4.out.trans (if_neg hbg))
             clear H4
             have hbg2 : ¬ (200000 : Int) < (title.size : Int) + (text.size : Int) := by omega
             go_wp2_with (go_at_call 37; go_must (refine (badFF_q title false _ hzt HCt.out).mono ?_); rintro e w3 ⟨rfl, rfl⟩)
             go_roundw
             case rel => exact ⟨k + 1, by omega, by go_num, HB3.out, HE.out.trans (firstE_ok hlt H5.out)⟩
             case measure => simp [intOf]; omega
         · have HCt := Lib.hid hct; clear hct
           have H4 := Lib.hid (show docsFE D = 9 by rw [HE.out, firstE_bad hlt (H3.out.trans (if_pos HCt.out)) (by decide)])
           clear H3
           go_wp2_with (go_at_call 37; go_must (refine (badFF_q title true _ hzt HCt.out).mono ?_); rintro e w3 ⟨rfl, rfl⟩)
           go_ret
           exact ⟨ret_int H4.out.symm, HB3.out⟩)
    · have H0 := Lib.hid (show docsFE D = 0 from HE.out.trans (firstE_end (by omega)))
      clear HE
      go_wp2_with fail
      go_ret
      exact ⟨ret_int H0.out.symm, HB.out⟩

end Go.Proofs.YtmcelgokchhpfaaGreatDoor
