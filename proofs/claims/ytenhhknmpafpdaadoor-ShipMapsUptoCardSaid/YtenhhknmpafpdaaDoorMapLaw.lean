/-
  The law of the site maps, walked.
-/
import Derived.Test.YtenhhknmpafpdaaDoorSiteMap
namespace Go.Proofs.YtenhhknmpafpdaaDoor
open Go.RowKit Go.ChangeShapes Go.WideShapes Go.Deep

set_option maxRecDepth 100000 in
set_option maxHeartbeats 4000000 in
theorem shipMaps_walk (base : ByteArray) (l : List OutV) (v : Value) (w : World) (h : OutsAt w v l) (hs : base.size ≤ 1048576) (hm : MaxAt w) :
    Calls Tryd.prog 3 #[.string base, v] w fun e w' => e = .returned (.bool true) ∧ Below w.heap.size w w' := by
  have HL := Lib.hid h; clear h
  have HM := Lib.hid hm; clear hm
  obtain ⟨oe, hoe⟩ : ∃ oe, outsE l = oe := ⟨_, rfl⟩
  have HE := Lib.hid hoe; clear hoe
  by_cases hz : oe = 0
  · subst hz
    cases hct : ctlL base.data.toList
    · have HC := Lib.hid hct; clear hct
      obtain ⟨tx, htx⟩ : ∃ tx : ByteArray, (⟨(mapB base l).toArray⟩ : ByteArray) = tx := ⟨_, rfl⟩
      have hcall := fun (w : World) (h : OutsAt w v l) (hm : MaxAt w) => siteMap_q base l v w h hs hm
      have hcall2 := fun (w : World) (h : OutsAt w v l) (hm : MaxAt w) => mapText_q base l v w h hs hm HE.out
      rw [mapE_ok HE.out HC.out, mapS_yes (mapE_ok HE.out HC.out), htx] at hcall
      rw [htx] at hcall2
      have H1 := Lib.hid hcall; clear hcall
      have H2 := Lib.hid hcall2; clear hcall2 htx
      have e1 : (tx.toList == tx.toList) = true := by simp
      go_enter Tryd.func3, Tryd.ntmps3
      go_wp2_with (first | (go_at_call 11; go_must (refine (H1.out _ HL.out HM.out).mono ?_); rintro e w1 ⟨rfl, hb⟩; have HB1 := Lib.hid hb; clear hb) | (go_at_call 12; go_must (refine (outsError_q l v 0 _ (HL.out.keep (Keeps.of_below HB1.out)) (HM.out.keep (Keeps.of_below HB1.out)) HE.out).mono ?_); rintro e w2 ⟨rfl, hb⟩; have HB2 := Lib.hid (HB1.out.trans (hb.mono HB1.out.size)); clear hb))
      go_loopw [7, 8] (fun t7 t wr => ∃ k : Nat, k ≤ base.size ∧ t = .int .i64 k ∧ t7 = .int .i64 0 ∧ EqW wr w2) (fun _ t _ => base.size - (intOf t).toNat)
      case atStart => exact ⟨0, Nat.zero_le _, rfl, rfl, EqW.refl _⟩
      case round =>
        obtain ⟨k, hk, rfl, rfl, hww⟩ := hrel
        unfold EqW at hww
        subst hww
        by_cases hlt : k < base.size
        · obtain ⟨ch, hch0⟩ : ∃ b, base.data.toList[k]? = some b := ⟨_, List.getElem?_eq_getElem (by rw [size_toList]; exact hlt)⟩
          have hsb : base[k] = ch := byteAtP hch0 hlt
          have h32 : ¬ (ch.toNat : Int) < 32 := fun h => by have h1 := ctlL_yes hch0 h; rw [HC.out] at h1; cases h1
          subst hsb
          clear hch0
          go_wp2_with fail
          go_roundw
          case rel => exact ⟨k + 1, by omega, by go_num, rfl, EqW.refl _⟩
          case measure => simp [intOf]; omega
        · go_wp2_with (go_at_call 13; go_must (refine (H2.out _ (HL.out.keep (Keeps.of_below HB2.out)) (HM.out.keep (Keeps.of_below HB2.out))).mono ?_); rintro e w3 ⟨rfl, hb⟩; have HB3 := Lib.hid (HB2.out.trans (hb.mono HB2.out.size)); clear hb)
          go_ret
          exact ⟨rfl, HB3.out⟩
    · have HC := Lib.hid hct; clear hct
      have hcall := fun (w : World) (h : OutsAt w v l) (hm : MaxAt w) => siteMap_q base l v w h hs hm
      rw [mapE_ctl HE.out HC.out, mapS_no (mapE_ctl HE.out HC.out) (by decide)] at hcall
      have H1 := Lib.hid hcall; clear hcall
      go_enter Tryd.func3, Tryd.ntmps3
      go_wp2_with (first | (go_at_call 11; go_must (refine (H1.out _ HL.out HM.out).mono ?_); rintro e w1 ⟨rfl, hb⟩; have HB1 := Lib.hid hb; clear hb) | (go_at_call 12; go_must (refine (outsError_q l v 0 _ (HL.out.keep (Keeps.of_below HB1.out)) (HM.out.keep (Keeps.of_below HB1.out)) HE.out).mono ?_); rintro e w2 ⟨rfl, hb⟩; have HB2 := Lib.hid (HB1.out.trans (hb.mono HB1.out.size)); clear hb))
      go_loopw [7, 8] (fun t7 t wr => ∃ (k : Nat) (n : Int), k ≤ base.size ∧ t = .int .i64 k ∧ t7 = .int .i64 n ∧ EqW wr w2 ∧ Hid ((n = 0 ∧ ∀ (j : Nat) (c : UInt8), base.data.toList[j]? = some c → j < k → ¬ (c.toNat : Int) < 32) ∨ n = 9)) (fun _ t _ => base.size - (intOf t).toNat)
      case atStart => exact ⟨0, 0, Nat.zero_le _, rfl, rfl, EqW.refl _, Or.inl ⟨rfl, fun j c _ h => absurd h (by omega)⟩⟩
      case round =>
        obtain ⟨k, n, hk, rfl, rfl, hww, HN⟩ := hrel
        unfold EqW at hww
        subst hww
        by_cases hn : n = 9
        · subst hn
          clear HN
          by_cases hlt : k < base.size
          · go_wp2_with fail
            go_ret
            exact ⟨rfl, HB2.out⟩
          · go_wp2_with fail
            go_ret
            exact ⟨rfl, HB2.out⟩
        · have HN2 := HN.out
          obtain ⟨rfl, hr⟩ := HN2.resolve_right hn
          clear HN HN2 hn
          have HR := Lib.hid hr; clear hr
          by_cases hlt : k < base.size
          · obtain ⟨ch, hch0⟩ : ∃ b, base.data.toList[k]? = some b := ⟨_, List.getElem?_eq_getElem (by rw [size_toList]; exact hlt)⟩
            have hch := Lib.hid hch0; clear hch0
            have hsb : base[k] = ch := byteAtP hch.out hlt
            subst hsb
            by_cases h32 : (base[k].toNat : Int) < 32
            · clear HR
              go_wp2_with fail
              go_roundw
              case rel => exact ⟨k + 1, 9, by omega, by go_num, rfl, EqW.refl _, Or.inr rfl⟩
              case measure => simp [intOf]; omega
            · go_wp2_with fail
              go_roundw
              case rel =>
                refine ⟨k + 1, 0, by omega, by go_num, rfl, EqW.refl _, Or.inl ⟨rfl, ?_⟩⟩
                intro j c hj hjk
                rcases Nat.lt_succ_iff_lt_or_eq.1 hjk with h5 | rfl
                · exact HR.out j c hj h5
                · rw [hch.out] at hj; cases hj; exact h32
              case measure => simp [intOf]; omega
          · exfalso
            have h1 := ctlL_no (l := base.data.toList) (fun j c hj hjl => HR.out j c hj (by rw [size_toList] at hjl; omega))
            rw [HC.out] at h1
            cases h1
  · have hcall := fun (w : World) (h : OutsAt w v l) (hm : MaxAt w) => siteMap_q base l v w h hs hm
    rw [mapE_outs HE.out hz, mapS_no (mapE_outs HE.out hz) hz] at hcall
    have H1 := Lib.hid hcall; clear hcall
    have e2 : (oe == oe) = true := by simp
    have e3 : (oe == 0) = false := by simpa using hz
    have e4 : (oe != 0) = true := by simpa using hz
    go_enter Tryd.func3, Tryd.ntmps3
    go_wp2_with (first | (go_at_call 11; go_must (refine (H1.out _ HL.out HM.out).mono ?_); rintro e w1 ⟨rfl, hb⟩; have HB1 := Lib.hid hb; clear hb) | (go_at_call 12; go_must (refine (outsError_q l v oe _ (HL.out.keep (Keeps.of_below HB1.out)) (HM.out.keep (Keeps.of_below HB1.out)) HE.out).mono ?_); rintro e w2 ⟨rfl, hb⟩; have HB2 := Lib.hid (HB1.out.trans (hb.mono HB1.out.size)); clear hb))
    go_loopw [7, 8] (fun t7 t wr => t = .int .i64 0 ∧ t7 = .int .i64 oe ∧ EqW wr w2) (fun _ t _ => base.size - (intOf t).toNat)
    case atStart => exact ⟨rfl, rfl, EqW.refl _⟩
    case round =>
      obtain ⟨rfl, rfl, hww⟩ := hrel
      unfold EqW at hww
      subst hww
      by_cases hlt : 0 < base.size
      · go_wp2_with fail
        go_ret
        exact ⟨rfl, HB2.out⟩
      · go_wp2_with fail
        go_ret
        exact ⟨rfl, HB2.out⟩

end Go.Proofs.YtenhhknmpafpdaaDoor
