/-
  The error of an index's documents and sizes: ship.docsFault, mastref1.docsError.
-/
import Derived.Test.YtmcelgokchhpfaaGreatDoorIdxPlain
import Derived.Test.YtmcelgokchhpfaaGreatDoorBox
import Derived.BigQuiet
import Derived.Deep.QuietTactic
import Derived.RegionTactic
namespace Go.Proofs.YtmcelgokchhpfaaGreatDoor
open Go.RowKit Go.ChangeShapes Go.WideShapes Go.Deep

def MaxAt (w : World) : Prop := ∃ m, w.cell? ⟨1, 0, none⟩ = some (.int .i64 m)
theorem MaxAt.keep {w w' : World} (h : MaxAt w) (k : Keeps w w') : MaxAt w' := by obtain ⟨m, hm⟩ := h; exact ⟨m, k _ _ hm⟩

theorem pathS_q (s : ByteArray) (v : Bool) (hv : pathV s = v) (w : World) (hs : s.size ≤ 1048576) (hm : MaxAt w) :
    Calls Tryz.prog 7 #[.string s] w fun e w' => e = .returned (.tuple #[.string (pathR s), .int .i64 (errI v)]) ∧ Below w.heap.size w w' := by
  obtain ⟨m, hm⟩ := hm
  exact shipPathOf_any s v hv m w hs hm
theorem pathP_q (s : ByteArray) (v : Bool) (hv : pathV s = v) (w : World) (hs : s.size ≤ 1048576) (hm : MaxAt w) :
    Calls Tryz.prog 36 #[.string s] w fun e w' => e = .returned (.tuple #[.string (pathR s), .int .i64 (errI v)]) ∧ Below w.heap.size w w' := by
  obtain ⟨m, hm⟩ := hm
  exact refPathOf_any s v hv m w hs hm

set_option maxHeartbeats 1000000 in
theorem control_q (s : ByteArray) (v : Bool) (w : World) (hs : s.size ≤ 1048576) (h : ctlL s.data.toList = v) : Calls Tryz.prog 8 #[.string s] w fun e w' => e = .returned (.bool v) ∧ w = w' := by
  have HV := Lib.hid h; clear h
  go_enter Tryz.func8, Tryz.ntmps8
  go_wp2_with fail
  go_loopw [3] (fun t w2 => ∃ k : Nat, k ≤ s.size ∧ t = .int .i64 k ∧ EqW w2 w ∧ Hid (∀ (j : Nat) (c : UInt8), s.data.toList[j]? = some c → j < k → ¬ (c.toNat : Int) < 32)) (fun t _ => s.size - (intOf t).toNat)
  case atStart => exact ⟨0, Nat.zero_le _, rfl, EqW.refl _, fun j c _ h => absurd h (by omega)⟩
  case round =>
    obtain ⟨k, hk, rfl, hww, hr⟩ := hrel
    unfold EqW at hww
    subst hww
    by_cases hlt : k < s.size
    · obtain ⟨ch, hch0⟩ : ∃ b, s.data.toList[k]? = some b := ⟨_, List.getElem?_eq_getElem (by rw [size_toList]; exact hlt)⟩
      have hch := Lib.hid hch0; clear hch0
      have hsb : s[k] = ch := byteAtP hch.out hlt
      subst hsb
      by_cases h32 : (s[k].toNat : Int) < 32
      · have HR := Lib.hid (show v = true by rw [← HV.out]; exact ctlL_yes hch.out h32)
        clear hr HV

        go_wp2_with fail

        go_ret
        exact ⟨ret_bool HR.out.symm, rfl⟩
      · have HR := Lib.hid (show ∀ (j : Nat) (c : UInt8), s.data.toList[j]? = some c → j < k + 1 → ¬ (c.toNat : Int) < 32 by
          intro j c hj hjk
          rcases Nat.lt_succ_iff_lt_or_eq.1 hjk with h5 | rfl
          · exact hr.out j c hj h5
          · rw [hch.out] at hj; cases hj; exact h32)
        clear hr
        go_wp2_with fail
        go_roundw
        case rel => exact ⟨k + 1, by omega, by go_num, EqW.refl _, HR.out⟩
        case measure => simp [intOf]; omega
    · have HR := Lib.hid (show v = false by rw [← HV.out]; exact ctlL_no (fun j c hj hjl => hr.out j c hj (by rw [size_toList] at hjl; omega)))
      clear hr HV
      go_wp2_with fail
      go_ret
      exact ⟨ret_bool HR.out.symm, rfl⟩

set_option maxHeartbeats 1000000 in
theorem badFF_q (s : ByteArray) (v : Bool) (w : World) (hs : s.size ≤ 1048576) (h : ctlL s.data.toList = v) : Calls Tryz.prog 37 #[.string s, .bool false, .bool false] w fun e w' => e = .returned (.bool v) ∧ w = w' := by
  have HV := Lib.hid h; clear h
  go_enter Tryz.func37, Tryz.ntmps37
  go_wp2_with fail
  go_loopw [7] (fun t w2 => ∃ k : Nat, k ≤ s.size ∧ t = .int .i64 k ∧ EqW w2 w ∧ Hid (∀ (j : Nat) (c : UInt8), s.data.toList[j]? = some c → j < k → ¬ (c.toNat : Int) < 32)) (fun t _ => s.size - (intOf t).toNat)
  case atStart => exact ⟨0, Nat.zero_le _, rfl, EqW.refl _, fun j c _ h => absurd h (by omega)⟩
  case round =>
    obtain ⟨k, hk, rfl, hww, hr⟩ := hrel
    unfold EqW at hww
    subst hww
    by_cases hlt : k < s.size
    · obtain ⟨ch, hch0⟩ : ∃ b, s.data.toList[k]? = some b := ⟨_, List.getElem?_eq_getElem (by rw [size_toList]; exact hlt)⟩
      have hch := Lib.hid hch0; clear hch0
      have hsb : s[k] = ch := byteAtP hch.out hlt
      subst hsb
      by_cases h32 : (s[k].toNat : Int) < 32
      · have HR := Lib.hid (show v = true by rw [← HV.out]; exact ctlL_yes hch.out h32)
        clear hr HV
        have h9b := Lib.hid h32
        go_wp2_with fail
        all_goals first | (go_ret; exact ⟨ret_bool HR.out.symm, rfl⟩) | (exfalso; simp at *; done)


      · have HR := Lib.hid (show ∀ (j : Nat) (c : UInt8), s.data.toList[j]? = some c → j < k + 1 → ¬ (c.toNat : Int) < 32 by
          intro j c hj hjk
          rcases Nat.lt_succ_iff_lt_or_eq.1 hjk with h5 | rfl
          · exact hr.out j c hj h5
          · rw [hch.out] at hj; cases hj; exact h32)
        clear hr
        go_wp2_with fail
        go_roundw
        case rel => exact ⟨k + 1, by omega, by go_num, EqW.refl _, HR.out⟩
        case measure => simp [intOf]; omega
    · have HR := Lib.hid (show v = false by rw [← HV.out]; exact ctlL_no (fun j c hj hjl => hr.out j c hj (by rw [size_toList] at hjl; omega)))
      clear hr HV
      go_wp2_with fail
      go_ret
      exact ⟨ret_bool HR.out.symm, rfl⟩

set_option maxRecDepth 100000 in
set_option maxHeartbeats 4000000 in
theorem docsError_q (D : List DocR) (dv : Value) (w : World) (h : DocsAt w dv D) (hz : ∀ d ∈ D, d.addr.size ≤ 1048576 ∧ d.title.size ≤ 1048576) (hm : MaxAt w) :
    Calls Tryz.prog 14 #[dv, .bool false] w fun e w' => e = .returned (.int .i64 (docsE D)) ∧ Below w.heap.size w w' := by
  obtain ⟨A, c, b, o, rfl, hlc, hc, hA, hcell⟩ := h
  unfold maxLen at hc
  have HCell := Lib.hid hcell; clear hcell
  have HM := Lib.hid hm; clear hm
  have HZ := Lib.hid hz; clear hz
  by_cases hbig : 120 < D.length
  · have HR := Lib.hid (show docsE D = 4 by rw [docsE, if_pos hbig])
    go_enter Tryz.func14, Tryz.ntmps14
    go_wp2_with fail
    go_ret
    exact ⟨ret_int HR.out.symm, Below.refl _ _⟩
  have HE := Lib.hid (show docsE D = firstE (docE1 D) (D.length - 0) 0 by rw [docsE, if_neg hbig]; rfl)
  go_enter Tryz.func14, Tryz.ntmps14
  go_wp2_with fail
  go_loopw [14] (fun t wr => ∃ k : Nat, k ≤ D.length ∧ t = .int .i64 k ∧ Hid (Below w.heap.size w wr) ∧ Hid (docsE D = firstE (docE1 D) (D.length - k) k)) (fun t _ => D.length - (intOf t).toNat)
  case atStart => exact ⟨0, Nat.zero_le _, rfl, Below.refl _ _, HE.out⟩
  case round =>
    clear HE
    obtain ⟨k, hk, rfl, HB, HE⟩ := hrel
    obtain ⟨wo, rfl⟩ : ∃ wo : World, wo = wr := ⟨_, rfl⟩
    by_cases hlt : k < D.length
    · have hA' := hA (by rintro rfl; simp at hlt)
      subst hA'
      clear hA
      obtain ⟨⟨addr, title, text⟩, hn⟩ : ∃ n, D[k]? = some n := ⟨_, List.getElem?_eq_getElem hlt⟩
      have h1 := docE1_at hn
      simp only at h1
      have H1 := Lib.hid h1; clear h1
      obtain ⟨hza, hzt⟩ := HZ.out _ (List.mem_of_getElem? hn)
      simp only at hza hzt
      obtain ⟨p0, p1, p2⟩ := (HCell.out k _ hn).keep (Keeps.of_below HB.out)
      simp only at p0 p1 p2
      have bb := World.block_lt_of_cell? _ _ p0
      simp only at bb
      have HN := Lib.hid hn; clear hn
      obtain ⟨W1, hW1⟩ : ∃ W1, wo.alloc (.cells #[.string addr, .string title, .string text] 33) = W1 := ⟨_, rfl⟩
      obtain ⟨nd, hnd⟩ : ∃ nd, wo.heap.size = nd := ⟨_, rfl⟩
      have HBs := Lib.hid HB.out.size
      have HB1 := Lib.hid (show Below w.heap.size w W1 from hW1 ▸ HB.out.alloc HBs.out _)
      have HD1 := Lib.hid (show CB W1 nd 33 #[.string addr, .string title, .string text] by rw [← hW1, ← hnd]; exact CB.new wo _ _)
      have HW1 := Lib.hid hW1
      have HNd := Lib.hid hnd
      clear hW1
      obtain ⟨pv, hpv⟩ : ∃ pv, pathV addr = pv := ⟨_, rfl⟩
      have HPV := Lib.hid hpv; clear hpv
      clear hnd
      cases pv
      · have H2 := Lib.hid (show docsE D = 3 by rw [HE.out, firstE_bad hlt (H1.out.trans (if_pos HPV.out)) (by decide)])
        go_wp2_with (go_at_call 36; rw [HW1.out, HNd.out]; go_must (refine (pathP_q addr false HPV.out _ hza (HM.out.keep (Keeps.of_below HB1.out))).mono ?_); rintro e w1 ⟨rfl, hb⟩; have HB2 := Lib.hid (HB1.out.trans (hb.mono HB1.out.size));  clear hb)
        go_ret
        exact ⟨ret_int H2.out.symm, HB2.out⟩
      have H2 := Lib.hid (H1.out.trans (if_neg (by rw [HPV.out]; simp)))
      clear H1
      go_wp2_with (go_at_call 36; rw [HW1.out, HNd.out]; go_must (refine (pathP_q addr true HPV.out _ hza (HM.out.keep (Keeps.of_below HB1.out))).mono ?_); rintro e w1 ⟨rfl, hb⟩; have HB2 := Lib.hid (HB1.out.trans (hb.mono HB1.out.size)); have HD2 := Lib.hid (HD1.out.below hb); have d0 := HD2.out.c 0; have d1 := HD2.out.c 1; have d2 := HD2.out.c 2; have dsh := HD2.out.sh;  clear hb)
      clear HB1 HD1 HW1 HPV
      rcases Nat.eq_zero_or_pos k with hk0 | hk0
      have hk3 : ¬ (0 : Int) < k := by omega
      have H3 := Lib.hid (H2.out.trans (if_neg (by rw [hk0]; simp [docPrev])))
      clear H2
      have hk0 := Lib.hid hk0
      go_quiet (fail)
      go_wp2_with fail
      rotate_left
      obtain ⟨j, hj⟩ : ∃ j, k = j + 1 := ⟨k - 1, by omega⟩
      obtain ⟨⟨pa, pt, px⟩, hpn⟩ : ∃ n, D[j]? = some n := ⟨_, List.getElem?_eq_getElem (by omega)⟩
      obtain ⟨s0, s1, s2⟩ := (HCell.out j _ hpn).keep (Keeps.of_below HB2.out)
      simp only at s0 s1 s2
      have HPB := Lib.hid (show docPrev D addr k = lsB addr pa by rw [hj]; exact docPrev_succ (x := addr) hpn); clear hpn
      have hwr : IntKind.i64.wrap ((k : Int) - 1) = (j : Int) := by rw [show (k : Int) - 1 = (j : Int) by omega]; rw [IntKind.wrap_i64]; omega
      have hjl : j < D.length := by omega
      have hk3 : (0 : Int) < k := by omega
      have HJ := Lib.hid hj; clear hj
      have bb2 := World.block_lt_of_cell? _ _ s0
      simp only at bb2
      have hleq : ∀ W : World, Sem.run Tryz.prog (binOp BinOp.leq 9 (Value.string addr) (Value.string pa)) W = Result.ok (Value.bool (lsB addr pa)) W := fun W => rfl
      have hk0 := Lib.hid hk0
      cases hls : lsB addr pa
      have H3 := Lib.hid (H2.out.trans (if_neg (by rw [HPB.out, hls]; simp)))
      clear H2
      rw [hls] at hleq
      go_quiet (fail)
      go_wp2_with fail
      clear s0 s1 s2 bb2 hleq hwr
      rotate_left
      have H4 := Lib.hid (show docsE D = 5 by rw [HE.out, firstE_bad hlt (H2.out.trans (if_pos (by rw [HPB.out, hls]))) (by decide)])
      clear H2
      rw [hls] at hleq
      go_quiet (fail)
      go_wp2_with fail
      go_ret
      exact ⟨ret_int H4.out.symm, Below.drewN' HB2.out _⟩
      all_goals
        (obtain ⟨w2, hw2⟩ : ∃ w2, w1.drewN nq = w2 := ⟨_, rfl⟩
         have HB3 := Lib.hid (show Below w.heap.size w w2 from hw2 ▸ Below.drewN' HB2.out _)
         have HD3 := Lib.hid (show CB w2 nd 33 #[.string addr, .string title, .string text] by rw [← hw2]; exact HD2.out)
         rw [hw2]
         clear hw2 HB2 HD2 d0 d1 d2 dsh
         have d0 := HD3.out.c 0
         have d1 := HD3.out.c 1
         have d2 := HD3.out.c 2
         have dsh := HD3.out.sh
         cases hct : ctlL title.data.toList
         · have HCt := Lib.hid hct; clear hct
           have H4 := Lib.hid (H3.out.trans (if_neg (by rw [HCt.out]; simp)))
           clear H3
           cases het : text.toList.isEmpty
           · have H5 := Lib.hid (show docsE D = 1 by rw [HE.out, firstE_bad hlt (H4.out.trans (if_pos het)) (by decide)])
             clear H4
             go_wp2_with (go_at_call 37; go_must (refine (badFF_q title false _ hzt HCt.out).mono ?_); rintro e w3 ⟨rfl, rfl⟩)
             go_ret
             exact ⟨ret_int H5.out.symm, HB3.out⟩
           · have H5 := Lib.hid (H4.out.trans (if_neg (by rw [het]; simp)))
             clear H4
             go_wp2_with (go_at_call 37; go_must (refine (badFF_q title false _ hzt HCt.out).mono ?_); rintro e w3 ⟨rfl, rfl⟩)
             go_roundw
             case rel => exact ⟨k + 1, by omega, by go_num, HB3.out, HE.out.trans (firstE_ok hlt H5.out)⟩
             case measure => simp [intOf]; omega
         · have HCt := Lib.hid hct; clear hct
           have H4 := Lib.hid (show docsE D = 9 by rw [HE.out, firstE_bad hlt (H3.out.trans (if_pos HCt.out)) (by decide)])
           clear H3
           go_wp2_with (go_at_call 37; go_must (refine (badFF_q title true _ hzt HCt.out).mono ?_); rintro e w3 ⟨rfl, rfl⟩)
           go_ret
           exact ⟨ret_int H4.out.symm, HB3.out⟩)
    · have H0 := Lib.hid (show docsE D = 0 from HE.out.trans (firstE_end (by omega)))
      clear HE
      go_wp2_with fail
      go_ret
      exact ⟨ret_int H0.out.symm, HB.out⟩

end Go.Proofs.YtmcelgokchhpfaaGreatDoor
