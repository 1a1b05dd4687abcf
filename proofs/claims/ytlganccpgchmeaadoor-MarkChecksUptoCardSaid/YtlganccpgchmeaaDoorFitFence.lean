/-
  Fences that can be printed: mark.fenceFits, mastref1.goodFence.
-/
import Derived.Test.YtlganccpgchmeaaDoorFitLine
import Derived.Test.YtlganccpgchmeaaDoorNodes
import Derived.Test.YtlganccpgchmeaaDoorBox
import Derived.BigQuiet
import Derived.Deep.QuietTactic
namespace Go.Proofs.YtlganccpgchmeaaDoor
open Go.RowKit Go.Deep

theorem trim_v (s z : ByteArray) (w : World) (hs : s.size ≤ 1073741824) (hz : z.data.toList = markStrip s.data.toList) : Calls Tryd.prog 77 #[.string s] w fun e w' => e = .returned (.string z) ∧ w' = w :=
  (trim_q s w hs).mono fun e w' ⟨⟨y, he, hy⟩, hw⟩ => ⟨by rw [he, Go.WideShapes.bytes_inj (hy.trans hz.symm)], hw⟩
theorem bytes_ne {a b : ByteArray} (h : a ≠ b) : (a.toList != b.toList) = true := by
  rw [Go.ByteArray.toList_eq, Go.ByteArray.toList_eq, bne_iff_ne]
  exact fun he => h (Go.WideShapes.bytes_inj he)
theorem fence_no1 {t d : ByteArray} (h0 : 0 < t.size) (h : Lib.hasSuffix t.data.toList [10] = false) : fenceB t d = false := by
  have h1 : t.data.toList.isEmpty = false := by
    have := (nonempty_forms h0).2.2.1
    rwa [Go.ByteArray.toList_eq] at this
  unfold fenceB
  rw [h1, h]; rfl
theorem fence_no2 {t d : ByteArray} (h : (hdB d.data.toList || ltB d.data.toList) = true) : fenceB t d = false := by
  unfold fenceB
  rw [h, Bool.or_true]; rfl
theorem fence_if {t d : ByteArray} (h0 : t.size = 0 ∨ Lib.hasSuffix t.data.toList [10] = true) (h : (hdB d.data.toList || ltB d.data.toList) = false) : fenceB t d = (linesB t).all (fun x => !badLine x.data.toList) := by
  unfold fenceB
  have h1 : (!t.data.toList.isEmpty && !Lib.hasSuffix t.data.toList [10]) = false := by
    rcases h0 with h0 | h0
    · have : t.data.toList = [] := List.length_eq_zero_iff.1 (by rw [size_toList]; exact h0)
      rw [this]; rfl
    · rw [h0, Bool.not_true, Bool.and_false]
  rw [h1, h]; rfl
theorem all_no {t x : ByteArray} {k : Nat} (hx : (linesB t)[k]? = some x) (hb : badLine x.data.toList = true) : (linesB t).all (fun x => !badLine x.data.toList) = false := by
  rw [List.all_eq_false]
  exact ⟨x, List.mem_of_getElem? hx, by rw [hb]; simp⟩
theorem all_yes {t : ByteArray} (h : ∀ (j : Nat) (x : ByteArray), j < (linesB t).length → (linesB t)[j]? = some x → badLine x.data.toList = false) : (linesB t).all (fun x => !badLine x.data.toList) = true := by
  rw [List.all_eq_true]
  intro x hx
  obtain ⟨j, hj⟩ := List.mem_iff_getElem?.1 hx
  rw [h j x (List.getElem?_eq_some_iff.1 hj).1 hj]; rfl
theorem bad_blank {x : ByteArray} (h0 : 0 < x.size) (h : x.data.toList.all blkB = true) : badLine x.data.toList = true := by
  have h1 : x.data.toList.isEmpty = false := by
    have := (nonempty_forms h0).2.2.1
    rwa [Go.ByteArray.toList_eq] at this
  unfold badLine
  rw [h1, h]; rfl
theorem bad_end {x : ByteArray} (h : endFB x.data.toList = true) : badLine x.data.toList = true := by
  unfold badLine; rw [h, Bool.or_true]
theorem good_line {x : ByteArray} (h0 : ¬ 0 < x.size ∨ x.data.toList.all blkB = false) (h : endFB x.data.toList = false) : badLine x.data.toList = false := by
  unfold badLine
  rw [h, Bool.or_false]
  rcases h0 with h0 | h0
  · rw [empty_lit h0]; rfl
  · rw [h0, Bool.and_false]

theorem ones_inv2 {w : World} {A : Option Addr} {n c : Nat} {xs : List Value} (h : OnesAt w (.slice A n c) xs) : xs.length = n ∧ n ≤ c ∧ c ≤ maxLen ∧ (0 < n → ∃ b o, A = some ⟨b, o, none⟩ ∧ ∀ i x, xs[i]? = some x → w.cell? ⟨b, o + i, none⟩ = some x) := by
  obtain ⟨A', c', b, o, h1, h2, h3, h4, h5⟩ := h
  cases h1
  exact ⟨rfl, h2, h3, fun hn => ⟨b, o, h4 (by intro h0; rw [h0] at hn; simp at hn), h5⟩⟩

set_option maxRecDepth 100000 in
set_option maxHeartbeats 8000000 in
theorem fenceFits_q (k0 lv0 : Int) (x0 d0 t0 : ByteArray) (A0 : Option Addr) (n0 c0 : Nat) (w : World) (hs : x0.size ≤ 1073741824) (hd : d0.size ≤ 1073741824) (hm : MaxA w) : Calls Tryd.prog 57 #[.agg #[.int .i64 k0, .int .i64 lv0, .string x0, .string d0, .string t0, .slice A0 n0 c0]] w fun e w' => e = .returned (.bool (fenceB x0 d0)) ∧ Below w.heap.size w w' := by
  have HS := Lib.hid hs
  have HM := Lib.hid hm
  have HY0 := Lib.hid (CB.new w #[.int .i64 k0, .int .i64 lv0, .string x0, .string d0, .string t0, .slice A0 n0 c0] 31)
  have HB0 := Lib.hid ((Below.refl w.heap.size w).alloc (Nat.le_refl _) (.cells #[.int .i64 k0, .int .i64 lv0, .string x0, .string d0, .string t0, .slice A0 n0 c0] 31))
  have HH := Lib.hid (Tryd.strings_HasSuffix x0 ⟨#[10]⟩ · (by omega))
  have HL := Lib.hid (fun W (h : MaxA W) => lines_q x0 W hs h)
  clear hm
  obtain ⟨zt, hzt⟩ : ∃ z : ByteArray, (⟨(markStrip d0.data.toList).toArray⟩ : ByteArray) = z := ⟨_, rfl⟩
  have HT := Lib.hid (fun W => trim_v d0 zt W hd (by rw [← hzt]))
  cases hbe : (hdB d0.data.toList || ltB d0.data.toList) with
  | true =>
    have hne : zt ≠ d0 := fun e => by
      have h1 : markStrip d0.data.toList = d0.data.toList := by
        have h9 := congrArg (fun b : ByteArray => b.data.toList) (hzt.trans e)
        simpa using h9
      have h2 := (markStrip_same _).1 h1
      rw [h2.1, h2.2] at hbe; cases hbe
    have g1 := bytes_ne hne
    have g2 : (zt.toList == d0.toList) = false := by simpa [bne] using g1
    have HF := Lib.hid (fence_no2 (t := x0) hbe)
    clear hne hzt hbe
    by_cases h0 : 0 < x0.size
    · obtain ⟨f1, f2, f3, f4⟩ := nonempty_forms h0
      cases hx1 : Lib.hasSuffix x0.data.toList [10] with
      | true =>
        have HX1 := Lib.hid hx1
        have HH1 := Lib.hid (fun W => by have hh := HH.out W; rw [HX1.out] at hh; exact hh : ∀ W, Calls Tryd.prog 46 #[.string x0, .string ⟨#[10]⟩] W fun e w' => e = .returned (.bool true) ∧ w' = W)
        clear hs h0
        go_enter Tryd.func57, Tryd.ntmps57
        go_wp2_with fail
        go_quiet (first
          | (go_at_call 46; exact Calls.quiet_of_same (HH1.out _))
          | (go_at_call 77; exact Calls.quiet_of_same (HT.out _)))
        go_wp2_with fail
        go_ret
        exact ⟨ret_bool HF.out.symm, Below.drewN' HB0.out _⟩
      | false =>
        have HX1 := Lib.hid hx1
        have HH1 := Lib.hid (fun W => by have hh := HH.out W; rw [HX1.out] at hh; exact hh : ∀ W, Calls Tryd.prog 46 #[.string x0, .string ⟨#[10]⟩] W fun e w' => e = .returned (.bool false) ∧ w' = W)
        have HF0 := Lib.hid (fence_no1 (d := d0) h0 hx1)
        clear hs h0 hx1
        go_enter Tryd.func57, Tryd.ntmps57
        go_wp2_with fail
        go_quiet (first
          | (go_at_call 46; exact Calls.quiet_of_same (HH1.out _))
          | (go_at_call 77; exact Calls.quiet_of_same (HT.out _)))
        go_wp2_with fail
        go_ret
        exact ⟨ret_bool HF0.out.symm, Below.drewN' HB0.out _⟩
    · obtain rfl := empty_lit h0
      have HX1 := Lib.hid (show Lib.hasSuffix (⟨#[]⟩ : ByteArray).data.toList [10] = false by decide)
      have HH1 := Lib.hid (fun W => by have hh := HH.out W; rw [HX1.out] at hh; exact hh : ∀ W, Calls Tryd.prog 46 #[.string ⟨#[]⟩, .string ⟨#[10]⟩] W fun e w' => e = .returned (.bool false) ∧ w' = W)
      clear hs h0
      go_enter Tryd.func57, Tryd.ntmps57
      go_wp2_with fail
      go_quiet (first
        | (go_at_call 46; exact Calls.quiet_of_same (HH1.out _))
        | (go_at_call 77; exact Calls.quiet_of_same (HT.out _)))
      go_wp2_with fail
      go_ret
      exact ⟨ret_bool HF.out.symm, Below.drewN' HB0.out _⟩
  | false =>
    have he : zt = d0 := by
      have h2 := (markStrip_same d0.data.toList).2 ⟨by cases h : hdB d0.data.toList <;> simp_all, by cases h : ltB d0.data.toList <;> simp_all⟩
      rw [← hzt, h2]
    subst he
    clear hzt
    by_cases h0 : 0 < x0.size
    · obtain ⟨f1, f2, f3, f4⟩ := nonempty_forms h0
      cases hx1 : Lib.hasSuffix x0.data.toList [10] with
      | true =>
        have HX1 := Lib.hid hx1
        have HH1 := Lib.hid (fun W => by have hh := HH.out W; rw [HX1.out] at hh; exact hh : ∀ W, Calls Tryd.prog 46 #[.string x0, .string ⟨#[10]⟩] W fun e w' => e = .returned (.bool true) ∧ w' = W)
        have HF := Lib.hid (fence_if (t := x0) (d := zt) (Or.inr hx1) hbe)
        clear hbe hx1
        clear hs h0
        go_enter Tryd.func57, Tryd.ntmps57
        go_wp2_with fail
        go_quiet (first
          | (go_at_call 46; exact Calls.quiet_of_same (HH1.out _))
          | (go_at_call 77; exact Calls.quiet_of_same (HT.out _)))
        go_wp2_with fail
        go_must (refine (HL.out _ (HM.out.keep (Keeps.of_below (Below.drewN' HB0.out nq)))).mono ?_)
        rintro e w1 ⟨A, n, c, rfl, hn, ho, hb⟩
        have HN := Lib.hid hn
        have HO := Lib.hid ho
        have HB1 := Lib.hid ((Below.drewN' HB0.out nq).trans (hb.mono (Below.drewN' HB0.out nq).size))
        obtain ⟨_, hnc, hcm0, hA0⟩ := ones_inv2 ho
        unfold maxLen at hcm0
        clear hn ho hb hA0
        go_wp2_with fail
        go_loopw [26] (fun tk wr => ∃ k : Nat, k ≤ n ∧ tk = .int .i64 k ∧ Hid (∀ (j : Nat) (x : ByteArray), j < k → (linesB x0)[j]? = some x → badLine x.data.toList = false) ∧ Hid (Below w1.heap.size w1 wr)) (fun t _ => n - (intOf t).toNat)
        case atStart => exact ⟨0, Nat.zero_le _, rfl, Lib.hid (fun j x hj => absurd hj (by omega)), Below.refl _ _⟩
        case round =>
          obtain ⟨k, hk, rfl, HOk, HBr⟩ := hrel
          have HBw := Lib.hid (HB1.out.trans (HBr.out.mono HB1.out.size))
          by_cases hlt : k < n
          · obtain ⟨x, hx⟩ : ∃ x, (linesB x0)[k]? = some x := ⟨_, List.getElem?_eq_getElem (by have := HN.out; omega)⟩
            obtain ⟨hol, hoc, hcm, hA⟩ := ones_inv2 HO.out
            obtain ⟨b, o, rfl, hcell⟩ := hA (by omega)
            have r0 := Keeps.of_below HBr.out _ _ (hcell k (.string x) (by rw [List.getElem?_map, hx]; rfl))
            have hxs : x.size ≤ 1073741824 := Nat.le_trans (linesB_size (List.mem_of_getElem? hx)) HS.out
            have HX := Lib.hid hx
            unfold maxLen at hcm
            clear hx hcell hA hol
            by_cases h0 : 0 < x.size
            · obtain ⟨f1, f2, f3, f4⟩ := nonempty_forms h0
              cases ha : x.data.toList.all blkB with
              | true =>
                have HR := Lib.hid (show (linesB x0).all (fun x => !badLine x.data.toList) = false from all_no HX.out (bad_blank h0 ha))
                have HA := Lib.hid ha
                clear ha h0
                go_wp2_with (go_at_call 79; go_must (refine (allBlank_q x true _ hxs HA.out).mono ?_); rintro e w3 ⟨rfl, hb⟩; have HB3 := Lib.hid (HBw.out.trans (hb.mono HBw.out.size)); clear hb)
                go_ret
                exact ⟨ret_bool (HF.out.trans HR.out).symm, HB3.out⟩
              | false =>
                cases he : endFB x.data.toList with
                | true =>
                  have HR := Lib.hid (show (linesB x0).all (fun x => !badLine x.data.toList) = false from all_no HX.out (bad_end he))
                  have HA := Lib.hid ha
                  have HE := Lib.hid he
                  clear ha h0 he
                  go_wp2_with (first
                    | (go_at_call 79; go_must (refine (allBlank_q x false _ hxs HA.out).mono ?_); rintro e w3 ⟨rfl, hb⟩; have HB3 := Lib.hid (HBw.out.trans (hb.mono HBw.out.size)); clear hb)
                    | (go_at_call 80; go_must (refine (endsFence_q x true _ hxs HE.out).mono ?_); rintro e w4 ⟨rfl, hb⟩; have HB4 := Lib.hid (HB3.out.trans (hb.mono HB3.out.size)); clear hb))
                  go_ret
                  exact ⟨ret_bool (HF.out.trans HR.out).symm, HB4.out⟩
                | false =>
                  have HG := Lib.hid (good_line (Or.inr ha) he)
                  have HA := Lib.hid ha
                  have HE := Lib.hid he
                  clear ha h0 he
                  go_wp2_with (first
                    | (go_at_call 79; go_must (refine (allBlank_q x false _ hxs HA.out).mono ?_); rintro e w3 ⟨rfl, hb⟩; have HB3 := Lib.hid (HBr.out.trans (hb.mono HBr.out.size)); clear hb)
                    | (go_at_call 80; go_must (refine (endsFence_q x false _ hxs HE.out).mono ?_); rintro e w4 ⟨rfl, hb⟩; have HB4 := Lib.hid (HB3.out.trans (hb.mono HB3.out.size)); clear hb))
                  go_roundw
                  case rel => exact ⟨k + 1, by omega, by go_num, Lib.hid (fun j y hj hy => by
                    rcases Nat.lt_succ_iff_lt_or_eq.1 hj with h1 | rfl
                    · exact HOk.out j y h1 hy
                    · rw [HX.out] at hy; cases hy; exact HG.out), HB4⟩
                  case measure => simp [intOf]; omega
            · obtain rfl := empty_lit h0
              have HE := Lib.hid (show endFB (⟨#[]⟩ : ByteArray).data.toList = false from rfl)
              have HG := Lib.hid (good_line (x := ⟨#[]⟩) (Or.inl (by decide)) HE.out)
              clear h0
              go_wp2_with (go_at_call 80; go_must (refine (endsFence_q ⟨#[]⟩ false _ hxs HE.out).mono ?_); rintro e w4 ⟨rfl, hb⟩; have HB4 := Lib.hid (HBr.out.trans (hb.mono HBr.out.size)); clear hb)
              go_roundw
              case rel => exact ⟨k + 1, by omega, by go_num, Lib.hid (fun j y hj hy => by
                rcases Nat.lt_succ_iff_lt_or_eq.1 hj with h1 | rfl
                · exact HOk.out j y h1 hy
                · rw [HX.out] at hy; cases hy; exact HG.out), HB4⟩
              case measure => simp [intOf]; omega
          · have HR := Lib.hid (show (linesB x0).all (fun x => !badLine x.data.toList) = true from all_yes (fun j x hj hx => HOk.out j x (by have := HN.out; omega) hx))
            clear HOk
            go_wp2_with fail
            go_ret
            exact ⟨ret_bool (HF.out.trans HR.out).symm, HBw.out⟩
      | false =>
        have HX1 := Lib.hid hx1
        have HH1 := Lib.hid (fun W => by have hh := HH.out W; rw [HX1.out] at hh; exact hh : ∀ W, Calls Tryd.prog 46 #[.string x0, .string ⟨#[10]⟩] W fun e w' => e = .returned (.bool false) ∧ w' = W)
        have HF0 := Lib.hid (fence_no1 (d := zt) h0 hx1)
        clear hs h0 hx1 hbe
        go_enter Tryd.func57, Tryd.ntmps57
        go_wp2_with fail
        go_quiet (first
          | (go_at_call 46; exact Calls.quiet_of_same (HH1.out _))
          | (go_at_call 77; exact Calls.quiet_of_same (HT.out _)))
        go_wp2_with fail
        go_ret
        exact ⟨ret_bool HF0.out.symm, Below.drewN' HB0.out _⟩
    · obtain rfl := empty_lit h0
      have HX1 := Lib.hid (show Lib.hasSuffix (⟨#[]⟩ : ByteArray).data.toList [10] = false by decide)
      have HH1 := Lib.hid (fun W => by have hh := HH.out W; rw [HX1.out] at hh; exact hh : ∀ W, Calls Tryd.prog 46 #[.string ⟨#[]⟩, .string ⟨#[10]⟩] W fun e w' => e = .returned (.bool false) ∧ w' = W)
      have HF := Lib.hid (fence_if (t := ⟨#[]⟩) (d := zt) (Or.inl rfl) hbe)
      clear hbe
      clear hs h0
      go_enter Tryd.func57, Tryd.ntmps57
      go_wp2_with fail
      go_quiet (first
        | (go_at_call 46; exact Calls.quiet_of_same (HH1.out _))
        | (go_at_call 77; exact Calls.quiet_of_same (HT.out _)))
      go_wp2_with fail
      go_must (refine (HL.out _ (HM.out.keep (Keeps.of_below (Below.drewN' HB0.out nq)))).mono ?_)
      rintro e w1 ⟨A, n, c, rfl, hn, ho, hb⟩
      have HN := Lib.hid hn
      have HO := Lib.hid ho
      have HB1 := Lib.hid ((Below.drewN' HB0.out nq).trans (hb.mono (Below.drewN' HB0.out nq).size))
      obtain ⟨_, hnc, hcm0, hA0⟩ := ones_inv2 ho
      unfold maxLen at hcm0
      clear hn ho hb hA0
      go_wp2_with fail
      go_loopw [26] (fun tk wr => ∃ k : Nat, k ≤ n ∧ tk = .int .i64 k ∧ Hid (∀ (j : Nat) (x : ByteArray), j < k → (linesB ⟨#[]⟩)[j]? = some x → badLine x.data.toList = false) ∧ Hid (Below w1.heap.size w1 wr)) (fun t _ => n - (intOf t).toNat)
      case atStart => exact ⟨0, Nat.zero_le _, rfl, Lib.hid (fun j x hj => absurd hj (by omega)), Below.refl _ _⟩
      case round =>
        obtain ⟨k, hk, rfl, HOk, HBr⟩ := hrel
        have HBw := Lib.hid (HB1.out.trans (HBr.out.mono HB1.out.size))
        by_cases hlt : k < n
        · obtain ⟨x, hx⟩ : ∃ x, (linesB ⟨#[]⟩)[k]? = some x := ⟨_, List.getElem?_eq_getElem (by have := HN.out; omega)⟩
          obtain ⟨hol, hoc, hcm, hA⟩ := ones_inv2 HO.out
          obtain ⟨b, o, rfl, hcell⟩ := hA (by omega)
          have r0 := Keeps.of_below HBr.out _ _ (hcell k (.string x) (by rw [List.getElem?_map, hx]; rfl))
          have hxs : x.size ≤ 1073741824 := Nat.le_trans (linesB_size (List.mem_of_getElem? hx)) HS.out
          have HX := Lib.hid hx
          unfold maxLen at hcm
          clear hx hcell hA hol
          by_cases h0 : 0 < x.size
          · obtain ⟨f1, f2, f3, f4⟩ := nonempty_forms h0
            cases ha : x.data.toList.all blkB with
            | true =>
              have HR := Lib.hid (show (linesB ⟨#[]⟩).all (fun x => !badLine x.data.toList) = false from all_no HX.out (bad_blank h0 ha))
              have HA := Lib.hid ha
              clear ha h0
              go_wp2_with (go_at_call 79; go_must (refine (allBlank_q x true _ hxs HA.out).mono ?_); rintro e w3 ⟨rfl, hb⟩; have HB3 := Lib.hid (HBw.out.trans (hb.mono HBw.out.size)); clear hb)
              go_ret
              exact ⟨ret_bool (HF.out.trans HR.out).symm, HB3.out⟩
            | false =>
              cases he : endFB x.data.toList with
              | true =>
                have HR := Lib.hid (show (linesB ⟨#[]⟩).all (fun x => !badLine x.data.toList) = false from all_no HX.out (bad_end he))
                have HA := Lib.hid ha
                have HE := Lib.hid he
                clear ha h0 he
                go_wp2_with (first
                  | (go_at_call 79; go_must (refine (allBlank_q x false _ hxs HA.out).mono ?_); rintro e w3 ⟨rfl, hb⟩; have HB3 := Lib.hid (HBw.out.trans (hb.mono HBw.out.size)); clear hb)
                  | (go_at_call 80; go_must (refine (endsFence_q x true _ hxs HE.out).mono ?_); rintro e w4 ⟨rfl, hb⟩; have HB4 := Lib.hid (HB3.out.trans (hb.mono HB3.out.size)); clear hb))
                go_ret
                exact ⟨ret_bool (HF.out.trans HR.out).symm, HB4.out⟩
              | false =>
                have HG := Lib.hid (good_line (Or.inr ha) he)
                have HA := Lib.hid ha
                have HE := Lib.hid he
                clear ha h0 he
                go_wp2_with (first
                  | (go_at_call 79; go_must (refine (allBlank_q x false _ hxs HA.out).mono ?_); rintro e w3 ⟨rfl, hb⟩; have HB3 := Lib.hid (HBr.out.trans (hb.mono HBr.out.size)); clear hb)
                  | (go_at_call 80; go_must (refine (endsFence_q x false _ hxs HE.out).mono ?_); rintro e w4 ⟨rfl, hb⟩; have HB4 := Lib.hid (HB3.out.trans (hb.mono HB3.out.size)); clear hb))
                go_roundw
                case rel => exact ⟨k + 1, by omega, by go_num, Lib.hid (fun j y hj hy => by
                  rcases Nat.lt_succ_iff_lt_or_eq.1 hj with h1 | rfl
                  · exact HOk.out j y h1 hy
                  · rw [HX.out] at hy; cases hy; exact HG.out), HB4⟩
                case measure => simp [intOf]; omega
          · obtain rfl := empty_lit h0
            have HE := Lib.hid (show endFB (⟨#[]⟩ : ByteArray).data.toList = false from rfl)
            have HG := Lib.hid (good_line (x := ⟨#[]⟩) (Or.inl (by decide)) HE.out)
            clear h0
            go_wp2_with (go_at_call 80; go_must (refine (endsFence_q ⟨#[]⟩ false _ hxs HE.out).mono ?_); rintro e w4 ⟨rfl, hb⟩; have HB4 := Lib.hid (HBr.out.trans (hb.mono HBr.out.size)); clear hb)
            go_roundw
            case rel => exact ⟨k + 1, by omega, by go_num, Lib.hid (fun j y hj hy => by
              rcases Nat.lt_succ_iff_lt_or_eq.1 hj with h1 | rfl
              · exact HOk.out j y h1 hy
              · rw [HX.out] at hy; cases hy; exact HG.out), HB4⟩
            case measure => simp [intOf]; omega
        · have HR := Lib.hid (show (linesB ⟨#[]⟩).all (fun x => !badLine x.data.toList) = true from all_yes (fun j x hj hx => HOk.out j x (by have := HN.out; omega) hx))
          clear HOk
          go_wp2_with fail
          go_ret
          exact ⟨ret_bool (HF.out.trans HR.out).symm, HBw.out⟩

set_option maxRecDepth 100000 in
set_option maxHeartbeats 8000000 in
theorem goodFence_r (k0 lv0 : Int) (x0 d0 t0 : ByteArray) (A0 : Option Addr) (n0 c0 : Nat) (w : World) (hs : x0.size ≤ 1073741824) (hd : d0.size ≤ 1073741824) (hm : MaxA w) : Calls Tryd.prog 41 #[.agg #[.int .i64 k0, .int .i64 lv0, .string x0, .string d0, .string t0, .slice A0 n0 c0]] w fun e w' => e = .returned (.bool (fenceB x0 d0)) ∧ Below w.heap.size w w' := by
  have HS := Lib.hid hs
  have HM := Lib.hid hm
  have HY0 := Lib.hid (CB.new w #[.int .i64 k0, .int .i64 lv0, .string x0, .string d0, .string t0, .slice A0 n0 c0] 31)
  have HB0 := Lib.hid ((Below.refl w.heap.size w).alloc (Nat.le_refl _) (.cells #[.int .i64 k0, .int .i64 lv0, .string x0, .string d0, .string t0, .slice A0 n0 c0] 31))
  have HH := Lib.hid (Tryd.strings_HasSuffix x0 ⟨#[10]⟩ · (by omega))
  have HL := Lib.hid (fun W (h : MaxA W) => linesOf_r x0 W hs h)
  clear hm
  cases ha : hdB d0.data.toList with
  | true =>
    have HF := Lib.hid (fence_no2 (t := x0) (d := d0) (by rw [ha]; rfl))
    have HE := Lib.hid (fun W => blankEnds_r d0 W true (ltB d0.data.toList) ha rfl hd)
    clear ha hs
    go_enter Tryd.func41, Tryd.ntmps41
    go_wp2_with (go_at_call 59; go_must (refine (HE.out _).mono ?_); rintro e w1 ⟨rfl, hw1⟩; obtain rfl := hw1.symm)
    go_ret
    exact ⟨ret_bool HF.out.symm, HB0.out⟩
  | false =>
    cases hb : ltB d0.data.toList with
    | true =>
      have HF := Lib.hid (fence_no2 (t := x0) (d := d0) (by rw [hb, Bool.or_true]))
      have HE := Lib.hid (fun W => blankEnds_r d0 W false true ha hb hd)
      clear ha hb hs
      go_enter Tryd.func41, Tryd.ntmps41
      go_wp2_with (go_at_call 59; go_must (refine (HE.out _).mono ?_); rintro e w1 ⟨rfl, hw1⟩; obtain rfl := hw1.symm)
      go_ret
      exact ⟨ret_bool HF.out.symm, HB0.out⟩
    | false =>
      have HE := Lib.hid (fun W => blankEnds_r d0 W false false ha hb hd)
      have hbe : (hdB d0.data.toList || ltB d0.data.toList) = false := by rw [ha, hb]; rfl
      clear ha hb
      by_cases h0 : 0 < x0.size
      · obtain ⟨f1, f2, f3, f4⟩ := nonempty_forms h0
        cases hx1 : Lib.hasSuffix x0.data.toList [10] with
        | true =>
          have HX1 := Lib.hid hx1
          have HF := Lib.hid (fence_if (t := x0) (d := d0) (Or.inr hx1) hbe)
          clear hbe hx1 hs h0
          go_enter Tryd.func41, Tryd.ntmps41
          go_wp2_with (first
            | (go_at_call 59; go_must (refine (HE.out _).mono ?_); rintro e w1 ⟨rfl, hw1⟩; obtain rfl := hw1.symm)
            | (go_at_call 46; go_must (refine (HH.out _).mono ?_); rw [HX1.out]; rintro e w1 ⟨rfl, hw1⟩; obtain rfl := hw1.symm))
          go_must (refine (HL.out _ (HM.out.keep (Keeps.of_below HB0.out))).mono ?_)
          rintro e w1 ⟨A, n, c, rfl, hn, ho, hb⟩
          have HN := Lib.hid hn
          have HO := Lib.hid ho
          have HB1 := Lib.hid (HB0.out.trans (hb.mono HB0.out.size))
          obtain ⟨_, hnc, hcm0, hA0⟩ := ones_inv2 ho
          unfold maxLen at hcm0
          clear hn ho hb hA0
          go_wp2_with fail
          go_loopw [32] (fun tk wr => ∃ k : Nat, k ≤ n ∧ tk = .int .i64 k ∧ Hid (∀ (j : Nat) (x : ByteArray), j < k → (linesB x0)[j]? = some x → badLine x.data.toList = false) ∧ Hid (Below w1.heap.size w1 wr)) (fun t _ => n - (intOf t).toNat)
          case atStart => exact ⟨0, Nat.zero_le _, rfl, Lib.hid (fun j x hj => absurd hj (by omega)), Below.refl _ _⟩
          case round =>
            obtain ⟨k, hk, rfl, HOk, HBr⟩ := hrel
            have HBw := Lib.hid (HB1.out.trans (HBr.out.mono HB1.out.size))
            by_cases hlt : k < n
            · obtain ⟨x, hx⟩ : ∃ x, (linesB x0)[k]? = some x := ⟨_, List.getElem?_eq_getElem (by have := HN.out; omega)⟩
              obtain ⟨hol, hoc, hcm, hA⟩ := ones_inv2 HO.out
              obtain ⟨b, o, rfl, hcell⟩ := hA (by omega)
              have r0 := Keeps.of_below HBr.out _ _ (hcell k (.string x) (by rw [List.getElem?_map, hx]; rfl))
              have hxs : x.size ≤ 1073741824 := Nat.le_trans (linesB_size (List.mem_of_getElem? hx)) HS.out
              have HX := Lib.hid hx
              unfold maxLen at hcm
              clear hx hcell hA hol
              by_cases h0 : 0 < x.size
              · obtain ⟨f1, f2, f3, f4⟩ := nonempty_forms h0
                cases ha : x.data.toList.all blkB with
                | true =>
                  have HR := Lib.hid (show (linesB x0).all (fun x => !badLine x.data.toList) = false from all_no HX.out (bad_blank h0 ha))
                  have HA := Lib.hid ha
                  clear ha h0
                  go_wp2_with (go_at_call 62; go_must (refine (empty_r x true _ hxs HA.out).mono ?_); rintro e w3 ⟨rfl, hb⟩; have HB3 := Lib.hid (HBw.out.trans (hb.mono HBw.out.size)); clear hb)
                  go_ret
                  exact ⟨ret_bool (HF.out.trans HR.out).symm, HB3.out⟩
                | false =>
                  cases he : endFB x.data.toList with
                  | true =>
                    have HR := Lib.hid (show (linesB x0).all (fun x => !badLine x.data.toList) = false from all_no HX.out (bad_end he))
                    have HA := Lib.hid ha
                    have HE := Lib.hid he
                    clear ha h0 he
                    go_wp2_with (first
                      | (go_at_call 62; go_must (refine (empty_r x false _ hxs HA.out).mono ?_); rintro e w3 ⟨rfl, hb⟩; have HB3 := Lib.hid (HBw.out.trans (hb.mono HBw.out.size)); clear hb)
                      | (go_at_call 63; go_must (refine (fenceEnd_r x true _ hxs HE.out).mono ?_); rintro e w4 ⟨rfl, hb⟩; have HB4 := Lib.hid (HB3.out.trans (hb.mono HB3.out.size)); clear hb))
                    go_ret
                    exact ⟨ret_bool (HF.out.trans HR.out).symm, HB4.out⟩
                  | false =>
                    have HG := Lib.hid (good_line (Or.inr ha) he)
                    have HA := Lib.hid ha
                    have HE := Lib.hid he
                    clear ha h0 he
                    go_wp2_with (first
                      | (go_at_call 62; go_must (refine (empty_r x false _ hxs HA.out).mono ?_); rintro e w3 ⟨rfl, hb⟩; have HB3 := Lib.hid (HBr.out.trans (hb.mono HBr.out.size)); clear hb)
                      | (go_at_call 63; go_must (refine (fenceEnd_r x false _ hxs HE.out).mono ?_); rintro e w4 ⟨rfl, hb⟩; have HB4 := Lib.hid (HB3.out.trans (hb.mono HB3.out.size)); clear hb))
                    go_roundw
                    case rel => exact ⟨k + 1, by omega, by go_num, Lib.hid (fun j y hj hy => by
                      rcases Nat.lt_succ_iff_lt_or_eq.1 hj with h1 | rfl
                      · exact HOk.out j y h1 hy
                      · rw [HX.out] at hy; cases hy; exact HG.out), HB4⟩
                    case measure => simp [intOf]; omega
              · obtain rfl := empty_lit h0
                have HE := Lib.hid (show endFB (⟨#[]⟩ : ByteArray).data.toList = false from rfl)
                have HG := Lib.hid (good_line (x := ⟨#[]⟩) (Or.inl (by decide)) HE.out)
                clear h0
                go_wp2_with (go_at_call 63; go_must (refine (fenceEnd_r ⟨#[]⟩ false _ hxs HE.out).mono ?_); rintro e w4 ⟨rfl, hb⟩; have HB4 := Lib.hid (HBr.out.trans (hb.mono HBr.out.size)); clear hb)
                go_roundw
                case rel => exact ⟨k + 1, by omega, by go_num, Lib.hid (fun j y hj hy => by
                  rcases Nat.lt_succ_iff_lt_or_eq.1 hj with h1 | rfl
                  · exact HOk.out j y h1 hy
                  · rw [HX.out] at hy; cases hy; exact HG.out), HB4⟩
                case measure => simp [intOf]; omega
            · have HR := Lib.hid (show (linesB x0).all (fun x => !badLine x.data.toList) = true from all_yes (fun j x hj hx => HOk.out j x (by have := HN.out; omega) hx))
              clear HOk
              go_wp2_with fail
              go_ret
              exact ⟨ret_bool (HF.out.trans HR.out).symm, HBw.out⟩
        | false =>
          have HX1 := Lib.hid hx1
          have HF0 := Lib.hid (fence_no1 (d := d0) h0 hx1)
          clear hbe hx1 hs h0
          go_enter Tryd.func41, Tryd.ntmps41
          go_wp2_with (first
            | (go_at_call 59; go_must (refine (HE.out _).mono ?_); rintro e w1 ⟨rfl, hw1⟩; obtain rfl := hw1.symm)
            | (go_at_call 46; go_must (refine (HH.out _).mono ?_); rw [HX1.out]; rintro e w1 ⟨rfl, hw1⟩; obtain rfl := hw1.symm))
          go_ret
          exact ⟨ret_bool HF0.out.symm, HB0.out⟩
      · obtain rfl := empty_lit h0
        have HF := Lib.hid (fence_if (t := ⟨#[]⟩) (d := d0) (Or.inl rfl) hbe)
        have HX1 := Lib.hid (show Lib.hasSuffix (⟨#[]⟩ : ByteArray).data.toList [10] = false by decide)
        clear hbe hs h0
        go_enter Tryd.func41, Tryd.ntmps41
        go_wp2_with (first
          | (go_at_call 59; go_must (refine (HE.out _).mono ?_); rintro e w1 ⟨rfl, hw1⟩; obtain rfl := hw1.symm)
          | (go_at_call 46; go_must (refine (HH.out _).mono ?_); rw [HX1.out]; rintro e w1 ⟨rfl, hw1⟩; obtain rfl := hw1.symm))
        go_must (refine (HL.out _ (HM.out.keep (Keeps.of_below HB0.out))).mono ?_)
        rintro e w1 ⟨A, n, c, rfl, hn, ho, hb⟩
        have HN := Lib.hid hn
        have HO := Lib.hid ho
        have HB1 := Lib.hid (HB0.out.trans (hb.mono HB0.out.size))
        obtain ⟨_, hnc, hcm0, hA0⟩ := ones_inv2 ho
        unfold maxLen at hcm0
        clear hn ho hb hA0
        go_wp2_with fail
        go_loopw [32] (fun tk wr => ∃ k : Nat, k ≤ n ∧ tk = .int .i64 k ∧ Hid (∀ (j : Nat) (x : ByteArray), j < k → (linesB ⟨#[]⟩)[j]? = some x → badLine x.data.toList = false) ∧ Hid (Below w1.heap.size w1 wr)) (fun t _ => n - (intOf t).toNat)
        case atStart => exact ⟨0, Nat.zero_le _, rfl, Lib.hid (fun j x hj => absurd hj (by omega)), Below.refl _ _⟩
        case round =>
          obtain ⟨k, hk, rfl, HOk, HBr⟩ := hrel
          have HBw := Lib.hid (HB1.out.trans (HBr.out.mono HB1.out.size))
          by_cases hlt : k < n
          · obtain ⟨x, hx⟩ : ∃ x, (linesB ⟨#[]⟩)[k]? = some x := ⟨_, List.getElem?_eq_getElem (by have := HN.out; omega)⟩
            obtain ⟨hol, hoc, hcm, hA⟩ := ones_inv2 HO.out
            obtain ⟨b, o, rfl, hcell⟩ := hA (by omega)
            have r0 := Keeps.of_below HBr.out _ _ (hcell k (.string x) (by rw [List.getElem?_map, hx]; rfl))
            have hxs : x.size ≤ 1073741824 := Nat.le_trans (linesB_size (List.mem_of_getElem? hx)) HS.out
            have HX := Lib.hid hx
            unfold maxLen at hcm
            clear hx hcell hA hol
            by_cases h0 : 0 < x.size
            · obtain ⟨f1, f2, f3, f4⟩ := nonempty_forms h0
              cases ha : x.data.toList.all blkB with
              | true =>
                have HR := Lib.hid (show (linesB ⟨#[]⟩).all (fun x => !badLine x.data.toList) = false from all_no HX.out (bad_blank h0 ha))
                have HA := Lib.hid ha
                clear ha h0
                go_wp2_with (go_at_call 62; go_must (refine (empty_r x true _ hxs HA.out).mono ?_); rintro e w3 ⟨rfl, hb⟩; have HB3 := Lib.hid (HBw.out.trans (hb.mono HBw.out.size)); clear hb)
                go_ret
                exact ⟨ret_bool (HF.out.trans HR.out).symm, HB3.out⟩
              | false =>
                cases he : endFB x.data.toList with
                | true =>
                  have HR := Lib.hid (show (linesB ⟨#[]⟩).all (fun x => !badLine x.data.toList) = false from all_no HX.out (bad_end he))
                  have HA := Lib.hid ha
                  have HE := Lib.hid he
                  clear ha h0 he
                  go_wp2_with (first
                    | (go_at_call 62; go_must (refine (empty_r x false _ hxs HA.out).mono ?_); rintro e w3 ⟨rfl, hb⟩; have HB3 := Lib.hid (HBw.out.trans (hb.mono HBw.out.size)); clear hb)
                    | (go_at_call 63; go_must (refine (fenceEnd_r x true _ hxs HE.out).mono ?_); rintro e w4 ⟨rfl, hb⟩; have HB4 := Lib.hid (HB3.out.trans (hb.mono HB3.out.size)); clear hb))
                  go_ret
                  exact ⟨ret_bool (HF.out.trans HR.out).symm, HB4.out⟩
                | false =>
                  have HG := Lib.hid (good_line (Or.inr ha) he)
                  have HA := Lib.hid ha
                  have HE := Lib.hid he
                  clear ha h0 he
                  go_wp2_with (first
                    | (go_at_call 62; go_must (refine (empty_r x false _ hxs HA.out).mono ?_); rintro e w3 ⟨rfl, hb⟩; have HB3 := Lib.hid (HBr.out.trans (hb.mono HBr.out.size)); clear hb)
                    | (go_at_call 63; go_must (refine (fenceEnd_r x false _ hxs HE.out).mono ?_); rintro e w4 ⟨rfl, hb⟩; have HB4 := Lib.hid (HB3.out.trans (hb.mono HB3.out.size)); clear hb))
                  go_roundw
                  case rel => exact ⟨k + 1, by omega, by go_num, Lib.hid (fun j y hj hy => by
                    rcases Nat.lt_succ_iff_lt_or_eq.1 hj with h1 | rfl
                    · exact HOk.out j y h1 hy
                    · rw [HX.out] at hy; cases hy; exact HG.out), HB4⟩
                  case measure => simp [intOf]; omega
            · obtain rfl := empty_lit h0
              have HE := Lib.hid (show endFB (⟨#[]⟩ : ByteArray).data.toList = false from rfl)
              have HG := Lib.hid (good_line (x := ⟨#[]⟩) (Or.inl (by decide)) HE.out)
              clear h0
              go_wp2_with (go_at_call 63; go_must (refine (fenceEnd_r ⟨#[]⟩ false _ hxs HE.out).mono ?_); rintro e w4 ⟨rfl, hb⟩; have HB4 := Lib.hid (HBr.out.trans (hb.mono HBr.out.size)); clear hb)
              go_roundw
              case rel => exact ⟨k + 1, by omega, by go_num, Lib.hid (fun j y hj hy => by
                rcases Nat.lt_succ_iff_lt_or_eq.1 hj with h1 | rfl
                · exact HOk.out j y h1 hy
                · rw [HX.out] at hy; cases hy; exact HG.out), HB4⟩
              case measure => simp [intOf]; omega
          · have HR := Lib.hid (show (linesB ⟨#[]⟩).all (fun x => !badLine x.data.toList) = true from all_yes (fun j x hj hx => HOk.out j x (by have := HN.out; omega) hx))
            clear HOk
            go_wp2_with fail
            go_ret
            exact ⟨ret_bool (HF.out.trans HR.out).symm, HBw.out⟩


end Go.Proofs.YtlganccpgchmeaaDoor
