/-
  The law of ids and contents, walked.
-/
import Derived.Test.YtlganccpgchmeaaDoorCont
namespace Go.Proofs.YtlganccpgchmeaaDoor
open Go.RowKit Go.ChangeShapes Go.WideShapes Go.Deep

set_option maxRecDepth 100000 in
set_option maxHeartbeats 2000000 in
theorem equalEnts_same (B1 B2 n : Nat) (E : List Entry) (v1 v2 : Value) (w : World) (h1 : w.ownsRow B1 33 3 v1 n (entsC E)) (h2 : w.ownsRow B2 33 3 v2 n (entsC E)) (hn : E.length = n) :
    Calls Tryd.prog 15 #[v1, v2] w fun e w' => e = .returned (.bool true) ∧ Below w.heap.size w w' := by
  obtain ⟨A1, c1, rfl, hc1, hl1, hA1⟩ := own_form h1
  obtain ⟨A2, c2, rfl, hc2, hl2, hA2⟩ := own_form h2
  have HO1 := Lib.hid h1; have HO2 := Lib.hid h2
  have HA1 := Lib.hid hA1; have HA2 := Lib.hid hA2
  have HNn := Lib.hid hn
  clear h1 h2 hA1 hA2 hn
  unfold maxLen at hc1
  go_enter Tryd.func15, Tryd.ntmps15
  go_wp2_with fail
  go_loopw [13] (fun i wr => ∃ k q : Nat, k ≤ n ∧ i = .int .i64 k ∧ wr = w.drewN q) (fun i _ => n - (intOf i).toNat)
  case atStart => exact ⟨0, 0, Nat.zero_le _, rfl, rfl⟩
  case round =>
    obtain ⟨k, q, hk, rfl, rfl⟩ := hrel
    by_cases hlt : k < n
    · obtain ⟨g1, rfl, _, _⟩ := HA1.out (by omega)
      obtain ⟨g2, rfl, _, _⟩ := HA2.out (by omega)
      obtain ⟨x, hx⟩ : ∃ x, E[k]? = some x := ⟨_, List.getElem?_eq_getElem (by have := HNn.out; omega)⟩
      have r0 := (HO1.out.cellAt (k * 3 + 0) (by omega)).trans (entsC_at E k x hx 0 (by omega))
      have r1 := (HO1.out.cellAt (k * 3 + 1) (by omega)).trans (entsC_at E k x hx 1 (by omega))
      have r2 := (HO1.out.cellAt (k * 3 + 2) (by omega)).trans (entsC_at E k x hx 2 (by omega))
      have s0 := (HO2.out.cellAt (k * 3 + 0) (by omega)).trans (entsC_at E k x hx 0 (by omega))
      have s1 := (HO2.out.cellAt (k * 3 + 1) (by omega)).trans (entsC_at E k x hx 1 (by omega))
      have s2 := (HO2.out.cellAt (k * 3 + 2) (by omega)).trans (entsC_at E k x hx 2 (by omega))
      simp only [entC, List.getElem?_cons_zero, List.getElem?_cons_succ, Nat.add_zero] at r0 r1 r2 s0 s1 s2
      clear hx
      go_wp2_with fail
      go_quiet (fail)
      go_wp2_with fail
      go_roundw
      case rel => exact ⟨k + 1, q + nq, by omega, by go_num, rfl⟩
      case measure => simp [intOf]; omega
    · go_wp2_with fail
      go_ret
      exact ⟨rfl, Below.drewN' (Below.refl _ _) _⟩

theorem equalIds_same (L : List (List UInt8)) (v1 v2 : Value) (w : World) (h1 : OnesAt w v1 (strCells L)) (h2 : OnesAt w v2 (strCells L)) :
    Calls Tryd.prog 16 #[v1, v2] w fun e w' => e = .returned (.bool true) ∧ Below w.heap.size w w' :=
  (equalStrs_any L L v1 v2 w h1 h2).mono fun e w' ⟨he, hb⟩ => ⟨by rw [he]; simp, hb⟩

set_option maxRecDepth 100000 in
set_option maxHeartbeats 2000000 in
theorem markIds_walk (l : List Node) (v : Value) (w : World) (h : NodesAt w v l) (hw : weight l ≤ 1048576) (htab : TabOk w) : Calls Tryd.prog 5 #[v] w fun e w' => e = .returned (.bool true) ∧ Below w.heap.size w w' := by
  have H := Lib.hid h
  have HTab := Lib.hid htab
  have htt : total l ≤ 1073741824 := by have := total_weight _ l (Nat.le_refl _); omega
  obtain ⟨N, hN⟩ : ∃ N, w.heap.size = N := ⟨_, rfl⟩
  have HN := Lib.hid hN
  have HI := Lib.hid (idsTop_q l v)
  have HC := Lib.hid (contents_q l v)
  rw [hN]
  clear h htab hN
  by_cases h0 : docErr l = 0
  · have H0 := Lib.hid h0; clear h0
    go_enter Tryd.func5, Tryd.ntmps5
    go_wp2_with fail
    refine (HI.out w H.out hw HTab.out).mono ?_
    rintro e w1 ⟨hb, ⟨hx, _⟩ | ⟨_, A1, n1, c1, rfl, hl1, own1⟩⟩
    · exact absurd H0.out hx
    rw [HN.out] at hb own1
    have HB1 := Lib.hid hb; have HO1 := Lib.hid own1; have HL1 := Lib.hid hl1
    clear hb own1 hl1
    go_wp2_with fail
    refine (HC.out w1 (H.out.keep (Keeps.of_below (by rw [HN.out]; exact HB1.out))) hw (HTab.out.keep (by rw [HN.out]; exact HB1.out))).mono ?_
    rintro e w2 ⟨hb, ⟨hx, _⟩ | ⟨_, A2, n2, c2, rfl, hl2, own2⟩⟩
    · exact absurd H0.out hx
    have HO1b := Lib.hid (own_belowK HO1.out hb)
    have HB2 := Lib.hid (HB1.out.trans (hb.mono (by have := HB1.out.size; have := HN.out; omega)))
    have HO2 := Lib.hid own2; have HL2 := Lib.hid hl2
    clear hb own2 hl2 HO1
    go_wp2_with fail
    refine (docError_any l v _ (H.out.keep (Keeps.of_below (by rw [HN.out]; exact HB2.out))) htt).mono ?_
    rw [H0.out]
    rintro e w3 ⟨rfl, hb⟩
    have HO1c := Lib.hid (own_belowK HO1b.out hb)
    have HO2c := Lib.hid (own_belowK HO2.out hb)
    have HB3 := Lib.hid (HB2.out.trans (hb.mono (by have := HB2.out.size; have := HN.out; omega)))
    clear hb HO1b HO2
    have hent := entriesOf_q l v w3 (H.out.keep (Keeps.of_below (by rw [HN.out]; exact HB3.out))) H0.out hw (HTab.out.keep (by rw [HN.out]; exact HB3.out))
    have HEl := Lib.hid (show (entK (headsL l) (headsL l).length).length = n2 by rw [entK_len _ (Nat.le_refl _)]; exact HL2.out)
    have HEi := Lib.hid (show entIds (entK (headsL l) (headsL l).length) = idsL (headsL l) by rw [entK_ids _ (Nat.le_refl _), List.take_length])
    rw [← HL2.out] at HO2c
    obtain ⟨E, hE⟩ : ∃ E, entK (headsL l) (headsL l).length = E := ⟨_, rfl⟩
    rw [hE] at hent HEl HEi HO2c
    rw [HL2.out] at HO2c
    have HEnt := Lib.hid hent
    obtain ⟨L, hL⟩ : ∃ L, idsL (headsL l) = L := ⟨_, rfl⟩
    rw [hL] at HEi HO1c HL1
    have hn2 : n2 ≤ 4000 := by rw [← HL2.out]; have := heads_len l; have := (docErr_zero H0.out).1; omega
    clear hent hE hL
    go_wp2_with fail
    refine HEnt.out.mono ?_
    rintro e w4 ⟨A4, c4, rfl, own4, hb⟩
    rw [HEl.out] at own4
    rw [HEl.out]
    have HO1d := Lib.hid (own_belowK HO1c.out hb)
    have HO2d := Lib.hid (own_belowK HO2c.out hb)
    have HO4 := Lib.hid own4
    have HB4 := Lib.hid (HB3.out.trans (hb.mono (by have := HB3.out.size; have := HN.out; omega)))
    clear hb own4 HO1c HO2c
    go_wp2_with (first
      | (go_at_call 15; go_loud (go_must (refine (equalEnts_same _ _ n2 E _ _ w4 HO2d.out HO4.out HEl.out).mono ?_); rintro e w5 ⟨rfl, hb⟩; have HO1e := Lib.hid (own_belowK HO1d.out hb); have HO4e := Lib.hid (own_belowK HO4.out hb); have HB5 := Lib.hid (HB4.out.trans (hb.mono (by have := HB4.out.size; have := HN.out; omega))); clear hb))
      | (go_at_call 17; go_loud (go_must (refine (idsOf_q _ E _ n2 w5 HO4e.out HEl.out hn2).mono ?_); rintro e w6 ⟨A6, c6, rfl, own6, hb⟩; rw [HEi.out] at own6; rw [HEi.out]; have HO1f := Lib.hid (own_belowK HO1e.out hb); have HO6 := Lib.hid own6; have HB6 := Lib.hid (HB5.out.trans (hb.mono (by have := HB5.out.size; have := HN.out; omega))); clear hb own6))
      | (go_at_call 16; go_loud (go_must (refine (equalIds_same L _ _ w6 (OnesAt.of_own HO1f.out) (OnesAt.of_own HO6.out)).mono ?_); rintro e w7 ⟨rfl, hb⟩; have HB7 := Lib.hid (HB6.out.trans (hb.mono (by have := HB6.out.size; have := HN.out; omega))); clear hb)))
    go_ret
    exact ⟨rfl, HB7.out⟩
  · have g1 : (docErr l != 0) = true := by simp [h0]
    have g2 : (docErr l == 0) = false := by simp [h0]
    have H0 := Lib.hid h0; clear h0
    obtain ⟨d, hd⟩ : ∃ d, docErr l = d := ⟨_, rfl⟩
    rw [hd] at g1 g2
    have HD := Lib.hid hd; clear hd
    have g3 : (d == d) = true := by simp
    go_enter Tryd.func5, Tryd.ntmps5
    go_wp2_with fail
    refine (HI.out w H.out hw HTab.out).mono ?_
    rintro e w1 ⟨hb, ⟨_, rfl⟩ | ⟨hx, _⟩⟩
    rotate_left
    · exact absurd hx H0.out
    rw [HN.out] at hb
    have HB1 := Lib.hid hb
    clear hb
    rw [HD.out]
    go_wp2_with fail
    refine (HC.out w1 (H.out.keep (Keeps.of_below (by rw [HN.out]; exact HB1.out))) hw (HTab.out.keep (by rw [HN.out]; exact HB1.out))).mono ?_
    rintro e w2 ⟨hb, ⟨_, rfl⟩ | ⟨hx, _⟩⟩
    rotate_left
    · exact absurd hx H0.out
    have HB2 := Lib.hid (HB1.out.trans (hb.mono (by have := HB1.out.size; have := HN.out; omega)))
    clear hb
    rw [HD.out]
    go_wp2_with fail
    refine (docError_any l v _ (H.out.keep (Keeps.of_below (by rw [HN.out]; exact HB2.out))) htt).mono ?_
    rw [HD.out]
    rintro e w3 ⟨rfl, hb⟩
    have HB3 := Lib.hid (HB2.out.trans (hb.mono (by have := HB2.out.size; have := HN.out; omega)))
    clear hb
    go_wp2_with fail
    go_ret
    exact ⟨rfl, HB3.out⟩

end Go.Proofs.YtlganccpgchmeaaDoor
