/-
  The error of a feed: ship.entriesFault, mastref1.FeedError.
-/
import Derived.Test.YtnanogcppglapaaGreatDoorFeedPlain
namespace Go.Proofs.YtnanogcppglapaaGreatDoor
open Go.RowKit Go.ChangeShapes Go.WideShapes Go.Deep

theorem strF_ne {a b : ByteArray} (h : a ≠ b) : (a.toList == b.toList) = false := by
  rw [Go.ByteArray.toList_eq, Go.ByteArray.toList_eq, beq_eq_false_iff_ne]
  exact fun he => h (Go.WideShapes.bytes_inj he)
theorem ctl_cat (a b c : ByteArray) : ctlL (a ++ b ++ c).data.toList = (ctlL a.data.toList || ctlL b.data.toList || ctlL c.data.toList) := by
  rw [ByteArray.data_append, ByteArray.data_append, Array.toList_append, Array.toList_append]
  simp [ctlL, List.any_append, Bool.or_assoc]
theorem notDay {d : Int} (h : decide (d < 0 ∨ 84005 < d) = true) : decide (0 ≤ d ∧ d ≤ 84005) = false := by
  simp only [decide_eq_true_eq, decide_eq_false_iff_not] at h ⊢; omega
theorem isDay {d : Int} (h : decide (d < 0 ∨ 84005 < d) = false) : decide (0 ≤ d ∧ d ≤ 84005) = true := by
  simp only [decide_eq_true_eq, decide_eq_false_iff_not] at h ⊢; omega
set_option maxHeartbeats 1000000 in
theorem badDay_q (n : Int) (v : Bool) (w : World) (h : decide (n < 0 ∨ 84005 < n) = v) : Calls Tryz.prog 13 #[.int .i64 n] w fun e w' => e = .returned (.bool v) ∧ w = w' := by
  subst h
  by_cases h0 : n < 0
  · go_enter Tryz.func13, Tryz.ntmps13
    go_wp2_with fail
    go_ret
    exact ⟨ret_bool (by simp [h0]), rfl⟩
  · by_cases h1 : 84005 < n
    · go_enter Tryz.func13, Tryz.ntmps13
      go_wp2_with fail
      go_ret
      exact ⟨ret_bool (by simp), rfl⟩
    · go_enter Tryz.func13, Tryz.ntmps13
      go_wp2_with fail
      go_ret
      exact ⟨ret_bool (by simp; omega), rfl⟩

set_option maxRecDepth 100000 in
set_option maxHeartbeats 4000000 in
theorem entriesFault_q (l : List EntF) (v : Value) (w : World) (h : EntsFAt w v l) (hz : ∀ x ∈ l, x.title.size + x.addr.size + x.summ.size ≤ 1048576) (hm : MaxAt w) :
    Calls Tryz.prog 14 #[v] w fun e w' => e = .returned (.int .i64 (entsE l)) ∧ Below w.heap.size w w' := by
  obtain ⟨A, c, b, o, rfl, hlc, hc, hA, hcell⟩ := h
  unfold maxLen at hc
  have HCell := Lib.hid hcell; clear hcell
  have HA := Lib.hid hA; clear hA
  have HM := Lib.hid hm; clear hm
  have HZ := Lib.hid hz; clear hz
  have HE := Lib.hid (show entsE l = firstE (entE1 l) (l.length - 0) 0 from rfl)
  have HB0 := Lib.hid (Below.refl w.heap.size w)
  go_enter Tryz.func14, Tryz.ntmps14
  go_wp2_with fail
  go_loopw [11] (fun t wr => ∃ k : Nat, k ≤ l.length ∧ t = .int .i64 k ∧ Hid (Below w.heap.size w wr) ∧ Hid (entsE l = firstE (entE1 l) (l.length - k) k)) (fun t _ => l.length - (intOf t).toNat)
  case atStart => exact ⟨0, Nat.zero_le _, rfl, HB0.out, HE.out⟩
  case round =>
    clear HE HB0
    obtain ⟨k, hk, rfl, HB, HE⟩ := hrel
    obtain ⟨wo, rfl⟩ : ∃ wo : World, wo = wr := ⟨_, rfl⟩
    by_cases hlt : k < l.length
    · have hA' := HA.out (by rintro rfl; simp at hlt)
      subst hA'
      obtain ⟨⟨tt, ad, su, dy⟩, hn⟩ : ∃ n, l[k]? = some n := ⟨_, List.getElem?_eq_getElem hlt⟩
      have h1 := entE1_at hn
      simp only at h1
      have H1 := Lib.hid h1; clear h1
      have hz := HZ.out _ (List.mem_of_getElem? hn)
      simp only at hz
      obtain ⟨p0, p1, p2, p3⟩ := (HCell.out k _ hn).keep (Keeps.of_below HB.out)
      simp only at p0 p1 p2 p3
      have bb := World.block_lt_of_cell? _ _ p0
      simp only at bb
      have HN := Lib.hid hn; clear hn
      obtain ⟨W1, hW1⟩ : ∃ W1, wo.alloc (.cells #[.string tt, .string ad, .string su, .int .i64 dy] 48) = W1 := ⟨_, rfl⟩
      obtain ⟨nd, hnd⟩ : ∃ nd, wo.heap.size = nd := ⟨_, rfl⟩
      have HBs := Lib.hid HB.out.size
      have HB1 := Lib.hid (show Below w.heap.size w W1 from hW1 ▸ HB.out.alloc HBs.out _)
      have HD1 := Lib.hid (show CB W1 nd 48 #[.string tt, .string ad, .string su, .int .i64 dy] by rw [← hW1, ← hnd]; exact CB.new wo _ _)
      have d0 := HD1.out.c 0
      have d1 := HD1.out.c 1
      have d2 := HD1.out.c 2
      have d3 := HD1.out.c 3
      have dsh := HD1.out.sh
      obtain ⟨c0, hc0⟩ : ∃ c, ctlL tt.data.toList = c := ⟨_, rfl⟩
      obtain ⟨c1, hc1⟩ : ∃ c, ctlL ad.data.toList = c := ⟨_, rfl⟩
      obtain ⟨c2, hc2⟩ : ∃ c, ctlL su.data.toList = c := ⟨_, rfl⟩
      have hce : ctlE ⟨tt, ad, su, dy⟩ = (c0 || c1 || c2) := by rw [ctlE, hc0, hc1, hc2]
      have HC0 := Lib.hid hc0; have HC1 := Lib.hid hc1; have HC2 := Lib.hid hc2; have HCE := Lib.hid hce
      clear hc0 hc1 hc2 hce
      by_cases hce : (c0 || c1 || c2) = true
      · have H2 := Lib.hid (show entsE l = 9 by rw [HE.out, firstE_bad hlt (H1.out.trans (if_pos (HCE.out.trans hce))) (by decide)])
        cases c0
        case' true =>
          go_wp2_with (go_at_call 12; go_must (refine (control_q _ _ _ (by omega) (by first | exact HC0.out | exact HC1.out | exact HC2.out)).mono ?_); rintro e w8 ⟨rfl, rfl⟩)
          go_ret
          exact ⟨ret_int H2.out.symm, HB1.out⟩
        case' false =>
          cases c1
          case' true =>
            go_wp2_with (go_at_call 12; go_must (refine (control_q _ _ _ (by omega) (by first | exact HC0.out | exact HC1.out | exact HC2.out)).mono ?_); rintro e w8 ⟨rfl, rfl⟩)
            go_ret
            exact ⟨ret_int H2.out.symm, HB1.out⟩
          case' false =>
            obtain rfl : c2 = true := by simpa using hce
            go_wp2_with (go_at_call 12; go_must (refine (control_q _ _ _ (by omega) (by first | exact HC0.out | exact HC1.out | exact HC2.out)).mono ?_); rintro e w8 ⟨rfl, rfl⟩)
            go_ret
            exact ⟨ret_int H2.out.symm, HB1.out⟩
      have hcf : c0 = false ∧ c1 = false ∧ c2 = false := by
        cases c0 <;> cases c1 <;> cases c2 <;> simp_all
      obtain ⟨rfl, rfl, rfl⟩ := hcf
      have H2 := Lib.hid (H1.out.trans (if_neg (by rw [HCE.out]; simp)))
      clear H1 hce HCE
      obtain ⟨pv, hpv⟩ : ∃ pv, pathV ad = pv := ⟨_, rfl⟩
      have HPV := Lib.hid hpv; clear hpv
      cases pv
      · have H3 := Lib.hid (show entsE l = 3 by rw [HE.out, firstE_bad hlt (H2.out.trans (if_pos HPV.out)) (by decide)])
        go_wp2_with (first | (go_at_call 12; go_must (refine (control_q _ _ _ (by omega) (by first | exact HC0.out | exact HC1.out | exact HC2.out)).mono ?_); rintro e w8 ⟨rfl, rfl⟩) | (go_at_call 38; go_must (refine (pathS_q ad false HPV.out _ (by omega) (HM.out.keep (Keeps.of_below HB1.out))).mono ?_); rintro e w1 ⟨rfl, hb⟩; have HB2 := Lib.hid (HB1.out.trans (hb.mono HB1.out.size)); clear hb))
        go_ret
        exact ⟨ret_int H3.out.symm, HB2.out⟩
      have H3 := Lib.hid (H2.out.trans (if_neg (by rw [HPV.out]; simp)))
      clear H2
      obtain ⟨bd, hbd⟩ : ∃ bd, decide (dy < 0 ∨ 84005 < dy) = bd := ⟨_, rfl⟩
      have HBd := Lib.hid hbd
      cases bd
      case' true =>
        have H4 := Lib.hid (show entsE l = 2 by rw [HE.out, firstE_bad hlt (H3.out.trans (if_pos (by simpa using hbd))) (by decide)])
        clear hbd
        go_wp2_with (first | (go_at_call 12; go_must (refine (control_q _ _ _ (by omega) (by first | exact HC0.out | exact HC1.out | exact HC2.out)).mono ?_); rintro e w8 ⟨rfl, rfl⟩) | (go_at_call 38; go_must (refine (pathS_q ad true HPV.out _ (by omega) (HM.out.keep (Keeps.of_below HB1.out))).mono ?_); rintro e w1 ⟨rfl, hb⟩; have HB2 := Lib.hid (HB1.out.trans (hb.mono HB1.out.size)); have HD2 := Lib.hid (HD1.out.below hb); clear hb; have e0 := HD2.out.c 0; have e1 := HD2.out.c 1; have e2 := HD2.out.c 2; have e3 := HD2.out.c 3; have esh := HD2.out.sh) | (go_at_call 13; go_must (refine (badDay_q dy true _ HBd.out).mono ?_); rintro e w8 ⟨rfl, rfl⟩))
        go_ret
        exact ⟨ret_int H4.out.symm, HB2.out⟩
      case' false =>
        have H4 := Lib.hid (H3.out.trans (if_neg (by simpa using hbd)))
        clear hbd H3
        go_wp2_with (first | (go_at_call 12; go_must (refine (control_q _ _ _ (by omega) (by first | exact HC0.out | exact HC1.out | exact HC2.out)).mono ?_); rintro e w8 ⟨rfl, rfl⟩) | (go_at_call 38; go_must (refine (pathS_q ad true HPV.out _ (by omega) (HM.out.keep (Keeps.of_below HB1.out))).mono ?_); rintro e w1 ⟨rfl, hb⟩; have HB2 := Lib.hid (HB1.out.trans (hb.mono HB1.out.size)); have HD2 := Lib.hid (HD1.out.below hb); clear hb; have e0 := HD2.out.c 0; have e1 := HD2.out.c 1; have e2 := HD2.out.c 2; have e3 := HD2.out.c 3; have esh := HD2.out.sh) | (go_at_call 13; go_must (refine (badDay_q dy false _ HBd.out).mono ?_); rintro e w8 ⟨rfl, rfl⟩))
        clear hW1 hnd d0 d1 d2 d3 dsh e0 e1 e2 e3 esh p0 p1 p2 p3 bb HB1 HD1
        go_loopw [45] (fun t wr => ∃ j : Nat, j ≤ k ∧ t = .int .i64 j ∧ Hid (Below w.heap.size w wr) ∧ Hid (CB wr nd 48 #[.string tt, .string ad, .string su, .int .i64 dy]) ∧ Hid ((l.take j).any (fun y => decide (y.addr = ad)) = false)) (fun t _ => k - (intOf t).toNat)
        case atStart => exact ⟨0, Nat.zero_le _, rfl, HB2, HD2, Lib.hid rfl⟩
        case round =>
          clear HB2 HD2 HB
          obtain ⟨j, hj, rfl, HB, HD, HNo⟩ := hrel
          obtain ⟨wq, rfl⟩ : ∃ wq : World, wq = wr := ⟨_, rfl⟩
          by_cases hlt2 : j < k
          · obtain ⟨⟨t9, a9, s9, y9⟩, hn⟩ : ∃ n, l[j]? = some n := ⟨_, List.getElem?_eq_getElem (by omega)⟩
            obtain ⟨p0, p1, p2, p3⟩ := (HCell.out j _ hn).keep (Keeps.of_below HB.out)
            simp only at p0 p1 p2 p3
            have bb := World.block_lt_of_cell? _ _ p0
            simp only at bb
            obtain ⟨W1, hW1⟩ : ∃ W1, wq.alloc (.cells #[.string t9, .string a9, .string s9, .int .i64 y9] 48) = W1 := ⟨_, rfl⟩
            obtain ⟨ne, hne⟩ : ∃ ne, wq.heap.size = ne := ⟨_, rfl⟩
            have HB1 := Lib.hid (show Below w.heap.size w W1 from hW1 ▸ HB.out.alloc HB.out.size _)
            have HG1 := Lib.hid (show CB W1 ne 48 #[.string t9, .string a9, .string s9, .int .i64 y9] by rw [← hW1, ← hne]; exact CB.new wq _ _)
            have HD1 := Lib.hid (show CB W1 nd 48 #[.string tt, .string ad, .string su, .int .i64 dy] by rw [← hW1]; exact HD.out.alloc _)
            have g1 := HG1.out.c 1
            have gsh := HG1.out.sh
            have d1 := HD1.out.c 1
            have dsh := HD1.out.sh
            have HTk := Lib.hid (show (l.take (j + 1)).any (fun y => decide (y.addr = ad)) = ((l.take j).any (fun y => decide (y.addr = ad)) || decide (a9 = ad)) by rw [List.take_add_one, hn]; simp [List.any_append])
            by_cases hsame : ad = a9
            · subst hsame
              have H5 := Lib.hid (show entsE l = 6 by
                rw [HE.out, firstE_bad hlt (H4.out.trans (if_pos (by
                  rw [List.any_eq_true]
                  exact ⟨_, List.mem_of_getElem? (i := j) (by rw [List.getElem?_take, if_pos hlt2]; exact hn), by simp⟩))) (by decide)])
              clear hn
              go_wp2_with fail
              go_ret
              exact ⟨ret_int H5.out.symm, HB1.out⟩
            · have hn1 := strF_ne hsame
              have hn2 := strF_ne (fun e => hsame e.symm)
              have hab : decide (a9 = ad) = false := decide_eq_false (fun e => hsame e.symm)
              have HNo2 := Lib.hid (show (l.take (j + 1)).any (fun y => decide (y.addr = ad)) = false by rw [HTk.out, HNo.out, hab]; rfl)
              clear hn hab
              go_wp2_with fail
              clear hW1 hne
              go_roundw
              case rel => exact ⟨j + 1, by omega, by go_num, HB1, HD1, HNo2⟩
              case measure => simp [intOf]; omega
          · obtain rfl : j = k := by omega
            have H5 := Lib.hid (H4.out.trans (if_neg (by rw [HNo.out]; simp)))
            go_wp2_with fail
            go_roundw
            case rel => exact ⟨j + 1, by omega, by go_num, HB, Lib.hid (HE.out.trans (firstE_ok hlt H5.out))⟩
            case measure => simp [intOf]; omega
    · have H0 := Lib.hid (show entsE l = 0 from HE.out.trans (firstE_end (by omega)))
      clear HE
      go_wp2_with fail
      go_ret
      exact ⟨ret_int H0.out.symm, HB.out⟩

set_option maxRecDepth 100000 in
set_option maxHeartbeats 4000000 in
theorem feedError_q (title base : ByteArray) (day : Int) (l : List EntF) (most : Int) (v : Value) (w : World) (h : EntsFAt w v l) (ht : title.size ≤ 1048576) (hbs : base.size ≤ 1048576) (hz : ∀ x ∈ l, x.title.size + x.addr.size + x.summ.size ≤ 1048576) (hm : MaxAt w) :
    Calls Tryz.prog 6 #[.string title, .string base, .int .i64 day, v, .int .i64 most] w fun e w' => e = .returned (.int .i64 (feedE title base day l most)) ∧ Below w.heap.size w w' := by
  obtain ⟨A, c, b, o, rfl, hlc, hc, hA, hcell⟩ := h
  unfold maxLen at hc
  have HCell := Lib.hid hcell; clear hcell
  have HA := Lib.hid hA; clear hA
  have HM := Lib.hid hm; clear hm
  have HZ := Lib.hid hz; clear hz
  have HB0 := Lib.hid (Below.refl w.heap.size w)
  by_cases hm0 : most < 0 ∨ 60 < most
  · have HR := Lib.hid (show feedE title base day l most = 2 by rw [feedE, if_pos hm0])
    have HI := Lib.hid (show decide (0 ≤ most ∧ most ≤ 60) = false by rw [decide_eq_false_iff_not]; omega)
    clear hm0
    go_enter Tryz.func6, Tryz.ntmps6
    go_wp2_with (go_at_call 22; go_must (refine (inRange_q most 60 false _ HI.out).mono ?_); rintro e w8 ⟨rfl, rfl⟩)
    go_ret
    exact ⟨ret_int HR.out.symm, HB0.out⟩
  have HI := Lib.hid (show decide (0 ≤ most ∧ most ≤ 60) = true by rw [decide_eq_true_eq]; omega)
  have HM0 := Lib.hid hm0; clear hm0
  by_cases hbig : 60 < l.length
  · have HR := Lib.hid (show feedE title base day l most = 4 by rw [feedE, if_neg HM0.out, if_pos hbig])
    go_enter Tryz.func6, Tryz.ntmps6
    go_wp2_with (go_at_call 22; go_must (refine (inRange_q most 60 true _ HI.out).mono ?_); rintro e w8 ⟨rfl, rfl⟩)
    go_ret
    exact ⟨ret_int HR.out.symm, HB0.out⟩
  obtain ⟨k0, hk0⟩ : ∃ c, ctlL title.data.toList = c := ⟨_, rfl⟩
  obtain ⟨k1, hk1⟩ : ∃ c, ctlL base.data.toList = c := ⟨_, rfl⟩
  have HK0 := Lib.hid hk0; have HK1 := Lib.hid hk1
  have HFe := Lib.hid (show feedE title base day l most = if (k0 || k1) = true then 9 else if day < 0 ∨ 84005 < day then 2 else entsE l by rw [feedE, if_neg HM0.out, if_neg hbig, hk0, hk1])
  clear hk0 hk1
  cases k0
  case' true =>
    have HR := Lib.hid (show feedE title base day l most = 9 by rw [HFe.out]; rfl)
    go_enter Tryz.func6, Tryz.ntmps6
    go_wp2_with (first | (go_at_call 22; go_must (refine (inRange_q most 60 true _ HI.out).mono ?_); rintro e w8 ⟨rfl, rfl⟩) | (go_at_call 23; go_must (refine (badFF_q _ _ _ (by assumption) (by first | exact HK0.out | exact HK1.out)).mono ?_); rintro e w8 ⟨rfl, rfl⟩))
    go_ret
    exact ⟨ret_int HR.out.symm, HB0.out⟩
  cases k1
  case' true =>
    have HR := Lib.hid (show feedE title base day l most = 9 by rw [HFe.out]; rfl)
    go_enter Tryz.func6, Tryz.ntmps6
    go_wp2_with (first | (go_at_call 22; go_must (refine (inRange_q most 60 true _ HI.out).mono ?_); rintro e w8 ⟨rfl, rfl⟩) | (go_at_call 23; go_must (refine (badFF_q _ _ _ (by assumption) (by first | exact HK0.out | exact HK1.out)).mono ?_); rintro e w8 ⟨rfl, rfl⟩))
    go_ret
    exact ⟨ret_int HR.out.symm, HB0.out⟩
  obtain ⟨bd0, hbd0⟩ : ∃ bd, decide (day < 0 ∨ 84005 < day) = bd := ⟨_, rfl⟩
  have HD0 := Lib.hid hbd0
  cases bd0
  case' true =>
    have HR := Lib.hid (show feedE title base day l most = 2 by rw [HFe.out, if_neg (by simp), if_pos (by simpa using hbd0)])
    clear hbd0
    go_enter Tryz.func6, Tryz.ntmps6
    go_wp2_with (first | (go_at_call 22; go_must (refine (inRange_q _ _ _ _ (by first | exact HI.out | exact notDay HD0.out)).mono ?_); rintro e w8 ⟨rfl, rfl⟩) | (go_at_call 23; go_must (refine (badFF_q _ _ _ (by assumption) (by first | exact HK0.out | exact HK1.out)).mono ?_); rintro e w8 ⟨rfl, rfl⟩))
    go_ret
    exact ⟨ret_int HR.out.symm, HB0.out⟩
  have HE := Lib.hid (show feedE title base day l most = firstE (entE1 l) (l.length - 0) 0 by rw [HFe.out, if_neg (by simp), if_neg (by simpa using hbd0)]; rfl)
  clear hbd0 HFe
  go_enter Tryz.func6, Tryz.ntmps6
  go_wp2_with (first | (go_at_call 22; go_must (refine (inRange_q _ _ _ _ (by first | exact HI.out | exact isDay HD0.out)).mono ?_); rintro e w8 ⟨rfl, rfl⟩) | (go_at_call 23; go_must (refine (badFF_q _ _ _ (by assumption) (by first | exact HK0.out | exact HK1.out)).mono ?_); rintro e w8 ⟨rfl, rfl⟩))
  go_loopw [34] (fun t wr => ∃ k : Nat, k ≤ l.length ∧ t = .int .i64 k ∧ Hid (Below w.heap.size w wr) ∧ Hid (feedE title base day l most = firstE (entE1 l) (l.length - k) k)) (fun t _ => l.length - (intOf t).toNat)
  case atStart => exact ⟨0, Nat.zero_le _, rfl, HB0.out, HE.out⟩
  case round =>
    clear HE HB0
    obtain ⟨k, hk, rfl, HB, HE⟩ := hrel
    obtain ⟨wo, rfl⟩ : ∃ wo : World, wo = wr := ⟨_, rfl⟩
    by_cases hlt : k < l.length
    · have hA' := HA.out (by rintro rfl; simp at hlt)
      subst hA'
      obtain ⟨⟨tt, ad, su, dy⟩, hn⟩ : ∃ n, l[k]? = some n := ⟨_, List.getElem?_eq_getElem hlt⟩
      have h1 := entE1_at hn
      simp only at h1
      have H1 := Lib.hid h1; clear h1
      have hz := HZ.out _ (List.mem_of_getElem? hn)
      simp only at hz
      obtain ⟨p0, p1, p2, p3⟩ := (HCell.out k _ hn).keep (Keeps.of_below HB.out)
      simp only at p0 p1 p2 p3
      have bb := World.block_lt_of_cell? _ _ p0
      simp only at bb
      have HN := Lib.hid hn; clear hn
      obtain ⟨W1, hW1⟩ : ∃ W1, wo.alloc (.cells #[.string tt, .string ad, .string su, .int .i64 dy] 48) = W1 := ⟨_, rfl⟩
      obtain ⟨nd, hnd⟩ : ∃ nd, wo.heap.size = nd := ⟨_, rfl⟩
      have HBs := Lib.hid HB.out.size
      have HB1 := Lib.hid (show Below w.heap.size w W1 from hW1 ▸ HB.out.alloc HBs.out _)
      have HD1 := Lib.hid (show CB W1 nd 48 #[.string tt, .string ad, .string su, .int .i64 dy] by rw [← hW1, ← hnd]; exact CB.new wo _ _)
      have d0 := HD1.out.c 0
      have d1 := HD1.out.c 1
      have d2 := HD1.out.c 2
      have d3 := HD1.out.c 3
      have dsh := HD1.out.sh
      obtain ⟨c0, hc0⟩ : ∃ c, ctlL tt.data.toList = c := ⟨_, rfl⟩
      obtain ⟨c1, hc1⟩ : ∃ c, ctlL ad.data.toList = c := ⟨_, rfl⟩
      obtain ⟨c2, hc2⟩ : ∃ c, ctlL su.data.toList = c := ⟨_, rfl⟩
      have hce : ctlE ⟨tt, ad, su, dy⟩ = (c0 || c1 || c2) := by rw [ctlE, hc0, hc1, hc2]
      have HC0 := Lib.hid hc0; have HC1 := Lib.hid hc1; have HC2 := Lib.hid hc2; have HCE := Lib.hid hce
      clear hc0 hc1 hc2 hce
      by_cases hce : (c0 || c1 || c2) = true
      · have H2 := Lib.hid (show feedE title base day l most = 9 by rw [HE.out, firstE_bad hlt (H1.out.trans (if_pos (HCE.out.trans hce))) (by decide)])
        go_wp2_with (go_at_call 23; go_must (refine (badFF_q _ true _ (by rw [ByteArray.size_append, ByteArray.size_append]; omega) (by rw [ctl_cat, HC0.out, HC1.out, HC2.out]; exact hce)).mono ?_); rintro e w8 ⟨rfl, rfl⟩)
        go_ret
        exact ⟨ret_int H2.out.symm, HB1.out⟩
      have hcf : c0 = false ∧ c1 = false ∧ c2 = false := by
        cases c0 <;> cases c1 <;> cases c2 <;> simp_all
      obtain ⟨rfl, rfl, rfl⟩ := hcf
      have H2 := Lib.hid (H1.out.trans (if_neg (by rw [HCE.out]; simp)))
      clear H1 hce HCE
      obtain ⟨pv, hpv⟩ : ∃ pv, pathV ad = pv := ⟨_, rfl⟩
      have HPV := Lib.hid hpv; clear hpv
      cases pv
      · have H3 := Lib.hid (show feedE title base day l most = 3 by rw [HE.out, firstE_bad hlt (H2.out.trans (if_pos HPV.out)) (by decide)])
        go_wp2_with (first | (go_at_call 23; go_must (refine (badFF_q _ false _ (by rw [ByteArray.size_append, ByteArray.size_append]; omega) (by rw [ctl_cat, HC0.out, HC1.out, HC2.out]; rfl)).mono ?_); rintro e w8 ⟨rfl, rfl⟩) | (go_at_call 24; go_must (refine (pathP_q ad false HPV.out _ (by omega) (HM.out.keep (Keeps.of_below HB1.out))).mono ?_); rintro e w1 ⟨rfl, hb⟩; have HB2 := Lib.hid (HB1.out.trans (hb.mono HB1.out.size)); clear hb))
        go_ret
        exact ⟨ret_int H3.out.symm, HB2.out⟩
      have H3 := Lib.hid (H2.out.trans (if_neg (by rw [HPV.out]; simp)))
      clear H2
      obtain ⟨bd, hbd⟩ : ∃ bd, decide (dy < 0 ∨ 84005 < dy) = bd := ⟨_, rfl⟩
      have HBd := Lib.hid hbd
      cases bd
      case' true =>
        have H4 := Lib.hid (show feedE title base day l most = 2 by rw [HE.out, firstE_bad hlt (H3.out.trans (if_pos (by simpa using hbd))) (by decide)])
        clear hbd
        go_wp2_with (first | (go_at_call 23; go_must (refine (badFF_q _ false _ (by rw [ByteArray.size_append, ByteArray.size_append]; omega) (by rw [ctl_cat, HC0.out, HC1.out, HC2.out]; rfl)).mono ?_); rintro e w8 ⟨rfl, rfl⟩) | (go_at_call 24; go_must (refine (pathP_q ad true HPV.out _ (by omega) (HM.out.keep (Keeps.of_below HB1.out))).mono ?_); rintro e w1 ⟨rfl, hb⟩; have HB2 := Lib.hid (HB1.out.trans (hb.mono HB1.out.size)); have HD2 := Lib.hid (HD1.out.below hb); clear hb; have e0 := HD2.out.c 0; have e1 := HD2.out.c 1; have e2 := HD2.out.c 2; have e3 := HD2.out.c 3; have esh := HD2.out.sh) | (go_at_call 22; go_must (refine (inRange_q dy 84005 false _ (notDay HBd.out)).mono ?_); rintro e w8 ⟨rfl, rfl⟩))
        go_ret
        exact ⟨ret_int H4.out.symm, HB2.out⟩
      case' false =>
        have H4 := Lib.hid (H3.out.trans (if_neg (by simpa using hbd)))
        clear hbd H3
        go_wp2_with (first | (go_at_call 23; go_must (refine (badFF_q _ false _ (by rw [ByteArray.size_append, ByteArray.size_append]; omega) (by rw [ctl_cat, HC0.out, HC1.out, HC2.out]; rfl)).mono ?_); rintro e w8 ⟨rfl, rfl⟩) | (go_at_call 24; go_must (refine (pathP_q ad true HPV.out _ (by omega) (HM.out.keep (Keeps.of_below HB1.out))).mono ?_); rintro e w1 ⟨rfl, hb⟩; have HB2 := Lib.hid (HB1.out.trans (hb.mono HB1.out.size)); have HD2 := Lib.hid (HD1.out.below hb); clear hb; have e0 := HD2.out.c 0; have e1 := HD2.out.c 1; have e2 := HD2.out.c 2; have e3 := HD2.out.c 3; have esh := HD2.out.sh) | (go_at_call 22; go_must (refine (inRange_q dy 84005 true _ (isDay HBd.out)).mono ?_); rintro e w8 ⟨rfl, rfl⟩))
        clear hW1 hnd d0 d1 d2 d3 dsh e0 e1 e2 e3 esh p0 p1 p2 p3 bb HB1 HD1
        go_loopw [64] (fun t wr => ∃ j : Nat, j ≤ k ∧ t = .int .i64 j ∧ Hid (Below w.heap.size w wr) ∧ Hid (CB wr nd 48 #[.string tt, .string ad, .string su, .int .i64 dy]) ∧ Hid ((l.take j).any (fun y => decide (y.addr = ad)) = false)) (fun t _ => k - (intOf t).toNat)
        case atStart => exact ⟨0, Nat.zero_le _, rfl, HB2, HD2, Lib.hid rfl⟩
        case round =>
          clear HB2 HD2 HB
          obtain ⟨j, hj, rfl, HB, HD, HNo⟩ := hrel
          obtain ⟨wq, rfl⟩ : ∃ wq : World, wq = wr := ⟨_, rfl⟩
          by_cases hlt2 : j < k
          · obtain ⟨⟨t9, a9, s9, y9⟩, hn⟩ : ∃ n, l[j]? = some n := ⟨_, List.getElem?_eq_getElem (by omega)⟩
            obtain ⟨p0, p1, p2, p3⟩ := (HCell.out j _ hn).keep (Keeps.of_below HB.out)
            simp only at p0 p1 p2 p3
            have bb := World.block_lt_of_cell? _ _ p0
            simp only at bb
            obtain ⟨W1, hW1⟩ : ∃ W1, wq.alloc (.cells #[.string t9, .string a9, .string s9, .int .i64 y9] 48) = W1 := ⟨_, rfl⟩
            obtain ⟨ne, hne⟩ : ∃ ne, wq.heap.size = ne := ⟨_, rfl⟩
            have HB1 := Lib.hid (show Below w.heap.size w W1 from hW1 ▸ HB.out.alloc HB.out.size _)
            have HG1 := Lib.hid (show CB W1 ne 48 #[.string t9, .string a9, .string s9, .int .i64 y9] by rw [← hW1, ← hne]; exact CB.new wq _ _)
            have HD1 := Lib.hid (show CB W1 nd 48 #[.string tt, .string ad, .string su, .int .i64 dy] by rw [← hW1]; exact HD.out.alloc _)
            have g1 := HG1.out.c 1
            have gsh := HG1.out.sh
            have d1 := HD1.out.c 1
            have dsh := HD1.out.sh
            have HTk := Lib.hid (show (l.take (j + 1)).any (fun y => decide (y.addr = ad)) = ((l.take j).any (fun y => decide (y.addr = ad)) || decide (a9 = ad)) by rw [List.take_add_one, hn]; simp [List.any_append])
            by_cases hsame : ad = a9
            · subst hsame
              have H5 := Lib.hid (show feedE title base day l most = 6 by
                rw [HE.out, firstE_bad hlt (H4.out.trans (if_pos (by
                  rw [List.any_eq_true]
                  exact ⟨_, List.mem_of_getElem? (i := j) (by rw [List.getElem?_take, if_pos hlt2]; exact hn), by simp⟩))) (by decide)])
              clear hn
              go_wp2_with fail
              go_ret
              exact ⟨ret_int H5.out.symm, HB1.out⟩
            · have hn1 := strF_ne hsame
              have hn2 := strF_ne (fun e => hsame e.symm)
              have hab : decide (a9 = ad) = false := decide_eq_false (fun e => hsame e.symm)
              have HNo2 := Lib.hid (show (l.take (j + 1)).any (fun y => decide (y.addr = ad)) = false by rw [HTk.out, HNo.out, hab]; rfl)
              clear hn hab
              go_wp2_with fail
              clear hW1 hne
              go_roundw
              case rel => exact ⟨j + 1, by omega, by go_num, HB1, HD1, HNo2⟩
              case measure => simp [intOf]; omega
          · obtain rfl : j = k := by omega
            have H5 := Lib.hid (H4.out.trans (if_neg (by rw [HNo.out]; simp)))
            go_wp2_with fail
            go_roundw
            case rel => exact ⟨j + 1, by omega, by go_num, HB, Lib.hid (HE.out.trans (firstE_ok hlt H5.out))⟩
            case measure => simp [intOf]; omega
    · have H0 := Lib.hid (show feedE title base day l most = 0 from HE.out.trans (firstE_end (by omega)))
      clear HE
      go_wp2_with fail
      go_ret
      exact ⟨ret_int H0.out.symm, HB.out⟩
end Go.Proofs.YtnanogcppglapaaGreatDoor
