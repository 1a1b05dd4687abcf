/-
  The law of searches, walked.
-/
import Derived.Test.YtjcegmbfipjdcaaGreatDoorSearchOfQ
import Derived.Test.YtjcegmbfipjdcaaGreatDoorIdxError
namespace Go.Proofs.YtjcegmbfipjdcaaGreatDoor
open Go.RowKit Go.ChangeShapes Go.WideShapes Go.Deep

set_option maxRecDepth 100000 in
set_option maxHeartbeats 2000000 in
theorem equalHits_same (B1 B2 n : Nat) (E : List HitV) (v1 v2 : Value) (w : World) (h1 : w.ownsRow B1 40 2 v1 n (hitsC E)) (h2 : w.ownsRow B2 40 2 v2 n (hitsC E)) (hn : E.length = n) :
    Calls Tryz.prog 10 #[v1, v2] w fun e w' => e = .returned (.bool true) ∧ Below w.heap.size w w' := by
  obtain ⟨A1, c1, rfl, hc1, hl1, hA1⟩ := own_form h1
  obtain ⟨A2, c2, rfl, hc2, hl2, hA2⟩ := own_form h2
  have HO1 := Lib.hid h1; have HO2 := Lib.hid h2
  have HA1 := Lib.hid hA1; have HA2 := Lib.hid hA2
  have HNn := Lib.hid hn
  clear h1 h2 hA1 hA2 hn
  unfold maxLen at hc1
  go_enter Tryz.func10, Tryz.ntmps10
  go_wp2_with fail
  go_loopw [13] (fun i wr => ∃ k q : Nat, k ≤ n ∧ i = .int .i64 k ∧ wr = w.drewN q) (fun i _ => n - (intOf i).toNat)
  case atStart => exact ⟨0, 0, Nat.zero_le _, rfl, rfl⟩
  case round =>
    obtain ⟨k, q, hk, rfl, rfl⟩ := hrel
    by_cases hlt : k < n
    · obtain ⟨g1, rfl, _, _⟩ := HA1.out (by omega)
      obtain ⟨g2, rfl, _, _⟩ := HA2.out (by omega)
      obtain ⟨x, hx⟩ : ∃ x, E[k]? = some x := ⟨_, List.getElem?_eq_getElem (by have := HNn.out; omega)⟩
      obtain ⟨r0, r1⟩ := hits_own HO1.out hx
      obtain ⟨s0, s1⟩ := hits_own HO2.out hx
      have e1 : (x.score == x.score) = true := by simp
      clear hx
      go_wp2_with fail
      go_quiet (fail)
      go_wp2_with fail
      go_roundw
      case rel => exact ⟨k + 1, _, by omega, by go_num, rfl⟩
      case measure => simp [intOf]; omega
    · obtain rfl : k = n := by omega
      go_wp2_with fail
      go_ret
      exact ⟨rfl, Below.drewN' (Below.refl _ _) _⟩

set_option maxRecDepth 100000 in
set_option maxHeartbeats 4000000 in
theorem shipSearches_walk (D : List DocR) (S : List Int) (T : List TermR) (dv sv tv : Value) (q : ByteArray) (most : Int) (w : World) (h : IdxAt w dv sv tv D S T) (hz : ∀ d ∈ D, d.addr.size ≤ 1048576 ∧ d.title.size ≤ 1048576) (hw : ∀ t ∈ T, t.word.size ≤ 1048576) (hlen : (idxT D S T).length ≤ 1073741824) (htab : TabOk w) (hm : MaxAt w) (hq : q.size ≤ 1048576) :
    Calls Tryz.prog 4 #[.agg #[dv, sv, tv], .string q, .int .i64 most] w fun e w' => e = .returned (.bool true) ∧ Below w.heap.size w w' := by
  have HI := Lib.hid h
  obtain ⟨⟨A, c, b, o, rfl, _, hc, _, _⟩, ⟨A2, c2, b2, o2, rfl, _, _, _, _⟩, ⟨A3, c3, b3, o3, dvs, mvs, rfl, _, hc3, _, _⟩⟩ := h
  unfold maxLen at hc hc3
  have HZ := Lib.hid hz; clear hz
  have HW := Lib.hid hw; clear hw
  have HLen := Lib.hid hlen; clear hlen
  have HTab := Lib.hid htab; clear htab
  have HM := Lib.hid hm; clear hm
  obtain ⟨fe, hfe⟩ : ∃ fe, idxE D S T = fe := ⟨_, rfl⟩
  have HF := Lib.hid hfe
  clear hfe
  go_enter Tryz.func4, Tryz.ntmps4
  go_wp2_with fail
  obtain ⟨W0, hW0⟩ : ∃ W0, w.alloc (.cells #[.slice A D.length c, .slice A2 S.length c2, .slice A3 T.length c3] 33) = W0 := ⟨_, rfl⟩
  have HX0 := Lib.hid (show CB W0 w.heap.size 33 #[.slice A D.length c, .slice A2 S.length c2, .slice A3 T.length c3] by rw [← hW0]; exact CB.new _ _ _)
  have HB0 := Lib.hid (show Below w.heap.size w W0 by rw [← hW0]; exact (Below.refl _ _).alloc (Nat.le_refl _) _)
  rw [hW0]
  clear hW0
  obtain ⟨nb, hnb⟩ : ∃ nb, w.heap.size = nb := ⟨_, rfl⟩
  rw [hnb] at HX0
  have HNb := Lib.hid hnb
  rw [hnb]
  clear hnb
  have hcall := search_q D S T _ _ _ q most W0 (HI.out.keep (Keeps.of_below HB0.out)) HZ.out HW.out HLen.out (HTab.out.keep HB0.out) (HM.out.keep (Keeps.of_below HB0.out)) hq
  refine hcall.mono ?_
  clear hcall
  rintro e w1 ⟨hb, hcase⟩
  have HX1 := Lib.hid (HX0.out.below hb); have HB1 := Lib.hid (HB0.out.trans (hb.mono HB0.out.size)); clear hb; have bx0 := HX1.out.c 0; have bx1 := HX1.out.c 1; have bx2 := HX1.out.c 2; have bsh := HX1.out.sh
  have herr := indexError_q D S T _ _ _ w1 (HI.out.keep (Keeps.of_below HB1.out)) HZ.out HW.out HLen.out (HTab.out.keep HB1.out) (HM.out.keep (Keeps.of_below HB1.out))
  rw [HF.out] at herr
  have HEr := Lib.hid herr; clear herr
  by_cases hz0 : fe = 0
  case neg =>
    have hE := seE_idx (q := q) (most := most) HF.out hz0
    obtain rfl : e = .returned (.tuple #[.slice none 0 0, .int .i64 fe]) := by
      rcases hcase with ⟨_, h2⟩ | ⟨h2, _⟩
      · rw [h2, hE]
      · exact absurd (hE ▸ h2) hz0
    clear hcase hE
    have e1 : (fe == fe) = true := by simp
    have e2 : (fe == 0) = false := by simpa using hz0
    have e3 : (fe != 0) = true := by simpa using hz0
    go_wp2_with (go_at_call 9; go_must (refine HEr.out.mono ?_); rintro e w2 ⟨rfl, hb⟩; have HB2 := Lib.hid (HB1.out.trans (hb.mono HB1.out.size)); clear hb)
    go_ret
    exact ⟨rfl, HB2.out⟩
  subst hz0
  by_cases hq2 : 200 < q.size
  · have hE := seE_long (most := most) HF.out hq2
    obtain rfl : e = .returned (.tuple #[.slice none 0 0, .int .i64 4]) := by
      rcases hcase with ⟨_, h2⟩ | ⟨h2, _⟩
      · rw [h2, hE]
      · rw [hE] at h2; cases h2
    clear hcase hE
    go_wp2_with (go_at_call 9; go_must (refine HEr.out.mono ?_); rintro e w2 ⟨rfl, hb⟩; have HB2 := Lib.hid (HB1.out.trans (hb.mono HB1.out.size)); clear hb)
    go_ret
    exact ⟨rfl, HB2.out⟩
  by_cases hm0 : most < 0 ∨ 50 < most
  · have hE := seE_most (q := q) (most := most) HF.out (by omega) hm0
    obtain rfl : e = .returned (.tuple #[.slice none 0 0, .int .i64 2]) := by
      rcases hcase with ⟨_, h2⟩ | ⟨h2, _⟩
      · rw [h2, hE]
      · rw [hE] at h2; cases h2
    clear hcase hE
    by_cases hm1 : most < 0
    · clear hm0
      go_wp2_with (go_at_call 9; go_must (refine HEr.out.mono ?_); rintro e w2 ⟨rfl, hb⟩; have HB2 := Lib.hid (HB1.out.trans (hb.mono HB1.out.size)); clear hb)
      go_ret
      exact ⟨rfl, HB2.out⟩
    · have hm2 : 50 < most := by omega
      clear hm0
      go_wp2_with (go_at_call 9; go_must (refine HEr.out.mono ?_); rintro e w2 ⟨rfl, hb⟩; have HB2 := Lib.hid (HB1.out.trans (hb.mono HB1.out.size)); clear hb)
      go_ret
      exact ⟨rfl, HB2.out⟩
  have hE := seE_ok (q := q) (most := most) HF.out (by omega) (by omega) (by omega)
  obtain ⟨v, R, hp, hs, rfl, hown⟩ : ∃ (v : Value) (R : List HitV), R.Perm (hitsQ D S T q) ∧ R.Pairwise HitR ∧ e = .returned (.tuple #[v, .int .i64 0]) ∧ w1.ownsRow W0.heap.size 40 2 v (R.take most.toNat).length (hitsC (R.take most.toNat)) := by
    rcases hcase with ⟨h2, _⟩ | ⟨_, h2⟩
    · exact absurd hE h2
    · exact h2
  clear hcase hE
  obtain ⟨mo, hmo⟩ : ∃ mo : Nat, most = (mo : Int) := ⟨most.toNat, by omega⟩
  subst hmo
  rw [Int.toNat_natCast] at hown
  obtain ⟨E, hE⟩ : ∃ E, R.take mo = E := ⟨_, rfl⟩
  rw [hE] at hown
  have HO := Lib.hid hown
  have HP := Lib.hid hp; have HS := Lib.hid hs; have HEq := Lib.hid hE
  obtain ⟨Av, cv, rfl, _, _, _⟩ := own_form hown
  have hm1 : ¬ (mo : Int) < 0 := by omega
  have hm2 : ¬ 50 < (mo : Int) := by omega
  clear hown hp hs hE hm0
  go_wp2_with (first
    | (go_at_call 9; go_must (refine HEr.out.mono ?_); rintro e w2 ⟨rfl, hb⟩; have HO2 := Lib.hid (own_keepB2 HO.out hb); have HX2 := Lib.hid (HX1.out.below hb); have HB2 := Lib.hid (HB1.out.trans (hb.mono HB1.out.size)); clear hb; have cx0 := HX2.out.c 0; have cx1 := HX2.out.c 1; have cx2 := HX2.out.c 2; have csh := HX2.out.sh)
    | (go_at_call 11; go_loud (go_must (refine (searchOf_q D S T _ _ _ q mo w2 (HI.out.keep (Keeps.of_below HB2.out)) HF.out HW.out (by omega)).mono ?_); rintro e w3 ⟨hb, v3, R3, hp3, hs3, rfl, own3⟩; have HO3 := Lib.hid (own_keepB2 HO2.out hb); have HB3 := Lib.hid (HB2.out.trans (hb.mono HB2.out.size)); obtain rfl : R = R3 := hits_unique HS.out hs3 (HP.out.trans hp3.symm); rw [HEq.out] at own3; have HQ3 := Lib.hid own3; obtain ⟨A3v, c3v, rfl, _, _, _⟩ := own_form own3; clear hb own3 hp3 hs3))
    | (go_at_call 10; go_loud (go_must (refine (equalHits_same _ _ _ E _ _ w3 HO3.out HQ3.out rfl).mono ?_); rintro e w4 ⟨rfl, hb⟩; have HB4 := Lib.hid (HB3.out.trans (hb.mono HB3.out.size)); clear hb)))
  go_ret
  exact ⟨rfl, HB4.out⟩

end Go.Proofs.YtjcegmbfipjdcaaGreatDoor
