/-
  Lines that can be printed: mark.lineFits.
-/
import Derived.Test.YtlganccpgchmeaaDoorFitMInl
namespace Go.Proofs.YtlganccpgchmeaaDoor
open Go.RowKit Go.Deep

set_option maxRecDepth 100000 in
set_option maxHeartbeats 16000000 in
theorem lineFits_q (l : List Node) (v : Value) (kd : Int) (w : World) (h : NodesAt w v l) (he : nodesErr l kd = 0) (hp : noBlk kd = true) (hsk : star kd = false) (hw : weight l ≤ 1073741824) :
    Calls Tryd.prog 58 #[v, .int .i64 kd] w (InlRes (lineB l kd) w) := by
  obtain ⟨A, c, bl, o, kv, rfl, hlc, hcm, hA, hcell, hkid⟩ := h.inv
  have hrec : ∀ W, Keeps w W → Calls Tryd.prog 83 #[.slice A l.length c, .agg #[.bool false, .bool false, .bool false, .int .i64 kd]] W (InlRes (inlL l none false false false kd) W) := fun W hW => inlinesFit_any _ l _ false false false kd kd W (Nat.le_refl _) (h.keep hW) he hp hw
  have hll : l.length ≤ 1073741824 := Nat.le_trans (len_weight l) hw
  have HV := Lib.hid (show lineB l kd = (endsB l && edgeB kd l && inlL l none false false false kd) from rfl)
  by_cases hke : l.length = 0
  · have hl0 : l = [] := List.length_eq_zero_iff.1 hke
    have HV3 := Lib.hid (show lineB l kd = inlL l none false false false kd by rw [HV.out, hl0]; rfl)
    have HRec := Lib.hid hrec
    have hkz : decide (0 < (l.length : Int)) = false := by simp; omega
    have hkz2 : ¬ 0 < l.length := by omega
    obtain ⟨r, hr⟩ : ∃ r, inlL l none false false false kd = r := ⟨_, rfl⟩
    rw [hr] at HV3 HRec
    clear hrec hl0 hke hA hcell hkid h he hp hw hr
    go_enter Tryd.func58, Tryd.ntmps58
    go_wp2_with (go_at_call 83; go_must (refine (HRec.out _ (Keeps.refl _)).mono ?_); rintro e w3 ⟨rfl, hb⟩)
    go_ret
    exact InlRes.mk HV3.out.symm hb
  · obtain ⟨q, hq⟩ : ∃ q, l.length = q + 1 := ⟨l.length - 1, by omega⟩
    have hA2 := hA (by intro h0; rw [h0] at hq; simp at hq)
    subst hA2
    obtain ⟨a, ha⟩ : ∃ a, l[0]? = some a := ⟨_, List.getElem?_eq_getElem (by omega)⟩
    obtain ⟨b, hb⟩ : ∃ b, l[q]? = some b := ⟨_, List.getElem?_eq_getElem (by omega)⟩
    obtain ⟨A1, c1, b3, o3, k3, e3, _, _, _, _, _⟩ := (hkid 0 a ha).inv
    obtain ⟨A2, c2, b4, o4, k4, e4, _, _, _, _, _⟩ := (hkid q b hb).inv
    obtain ⟨a0, a1, a2, a3, a4, a5, _, _, _, _, _⟩ := hcell 0 a ha
    obtain ⟨b0, b1, b2, b3', b4', b5, _, _, _, _, _⟩ := hcell q b hb
    rw [e3] at a5
    rw [e4] at b5
    simp only [Nat.zero_mul, Nat.add_zero] at a0 a1 a2 a3 a4 a5
    have hsa := node_sizes ha
    have hsb := node_sizes hb
    have hats : a.text.size ≤ 1073741824 := by omega
    have hbts : b.text.size ≤ 1073741824 := by omega
    have HEd := Lib.hid (edge_ends hq ha hb kd)
    have HEn := Lib.hid (ends_ends hq ha hb)
    rw [hq] at hrec
    obtain ⟨r, hr⟩ : ∃ r, inlL l none false false false kd = r := ⟨_, rfl⟩
    rw [hr] at hrec HV
    have HRec := Lib.hid hrec
    have hcm2 : c ≤ 9223372036854775807 := by unfold maxLen at hcm; omega
    have hqc : q + 1 ≤ c := by omega
    have hq9 : q ≤ 1073741824 := by omega
    have hwq : IntKind.i64.wrap (q : Int) = (q : Int) := IntWalk.i64_in _ (by omega)
    have bb := World.block_lt_of_cell? _ _ a0
    simp only at bb
    clear hrec hr e3 e4 hcell hkid hA ha hb hcm hke h hlc he hp hw hsa hsb hll
    rw [hq]
    clear hq
    go_enter Tryd.func58, Tryd.ntmps58
    go_wp2_with fail
    go_cut [5, 6] from 10 (fun s5 s6 wx => ∃ na nb, s5 = .pointer (some ⟨na, 0, none⟩) ∧ s6 = .pointer (some ⟨nb, 0, none⟩) ∧ Hid (Firsts na nb #[.int .i64 a.kind, .int .i64 a.level, .string a.text, .string a.dest, .string a.title, .slice A1 a.kids.length c1] #[.int .i64 b.kind, .int .i64 b.level, .string b.text, .string b.dest, .string b.title, .slice A2 b.kids.length c2] w wx))
    case first =>
      go_region
      all_goals
        go_wp2_with fail
        go_meet
      all_goals first
        | exact ⟨_, _, rfl, rfl, Firsts.ab _ _ _⟩
        | exact ⟨_, _, rfl, rfl, Firsts.ba _ _ _⟩
    case rest =>
      obtain ⟨na, nb, rfl, rfl, HF⟩ := hcut
      clear a0 a1 a2 a3 a4 a5 b0 b1 b2 b3' b4' b5 bb hwq
      have a0 := HF.out.a.c 0
      have a1 := HF.out.a.c 1
      have a2 := HF.out.a.c 2
      have a3 := HF.out.a.c 3
      have a4 := HF.out.a.c 4
      have a5 := HF.out.a.c 5
      have b0 := HF.out.b.c 0
      have b1 := HF.out.b.c 1
      have b2 := HF.out.b.c 2
      have b3 := HF.out.b.c 3
      have b4 := HF.out.b.c 4
      have b5 := HF.out.b.c 5
      simp only [List.getElem?_toArray, List.getElem?_cons_zero, List.getElem?_cons_succ] at a0 a1 a2 a3 a4 a5 b0 b1 b2 b3 b4 b5
      cases hva : brk a.kind with
      | true =>
        have HVA := Lib.hid hva
        obtain ⟨vb, hvb⟩ : ∃ v, brk b.kind = v := ⟨_, rfl⟩
        have HVB := Lib.hid hvb
        have HV3 := Lib.hid (show lineB l kd = false by rw [HV.out, HEd.out, HEn.out]; simp [hva])
        clear hva hvb hsk
        go_wp2_with (first
          | (go_at_call_of 81 a.kind; go_must (refine (isBreak_q a.kind _ _ _ _ _ _ _ _ _ HVA.out).mono ?_); rintro e w3 ⟨rfl, hb⟩; have HF := Lib.hid (HF.out.below hb); clear hb; have a0 := HF.out.a.c 0; have a1 := HF.out.a.c 1; have a2 := HF.out.a.c 2; have a3 := HF.out.a.c 3; have a4 := HF.out.a.c 4; have a5 := HF.out.a.c 5; have b0 := HF.out.b.c 0; have b1 := HF.out.b.c 1; have b2 := HF.out.b.c 2; have b3 := HF.out.b.c 3; have b4 := HF.out.b.c 4; have b5 := HF.out.b.c 5; simp only [List.getElem?_toArray, List.getElem?_cons_zero, List.getElem?_cons_succ] at a0 a1 a2 a3 a4 a5 b0 b1 b2 b3 b4 b5)
          | (go_at_call_of 81 b.kind; go_must (refine (isBreak_q b.kind _ _ _ _ _ _ _ _ _ HVB.out).mono ?_); rintro e w3 ⟨rfl, hb⟩; have HF := Lib.hid (HF.out.below hb); clear hb; have a0 := HF.out.a.c 0; have a1 := HF.out.a.c 1; have a2 := HF.out.a.c 2; have a3 := HF.out.a.c 3; have a4 := HF.out.a.c 4; have a5 := HF.out.a.c 5; have b0 := HF.out.b.c 0; have b1 := HF.out.b.c 1; have b2 := HF.out.b.c 2; have b3 := HF.out.b.c 3; have b4 := HF.out.b.c 4; have b5 := HF.out.b.c 5; simp only [List.getElem?_toArray, List.getElem?_cons_zero, List.getElem?_cons_succ] at a0 a1 a2 a3 a4 a5 b0 b1 b2 b3 b4 b5)
          | (go_at_call_of 82 ca; go_must (refine (isBlank_q ca _ _ HBa.out).mono ?_); rintro e w3 ⟨rfl, hw3⟩; obtain rfl := hw3.symm)
          | (go_at_call_of 82 cb; go_must (refine (isBlank_q cb _ _ HBb.out).mono ?_); rintro e w3 ⟨rfl, hw3⟩; obtain rfl := hw3.symm)
          | (go_at_call 83; go_must (refine (HRec.out _ (Keeps.of_below HF.out.bel)).mono ?_); rintro e w3 ⟨rfl, hb⟩; have HF := Lib.hid (HF.out.below hb); clear hb))
        go_ret
        exact InlRes.mk HV3.out.symm HF.out.bel
      | false =>
        have HVA := Lib.hid hva
        cases hvb : brk b.kind with
        | true =>
          have HVB := Lib.hid hvb
          have HV3 := Lib.hid (show lineB l kd = false by rw [HV.out, HEd.out, HEn.out]; simp [hva, hvb])
          clear hva hvb hsk
          go_wp2_with (first
            | (go_at_call_of 81 a.kind; go_must (refine (isBreak_q a.kind _ _ _ _ _ _ _ _ _ HVA.out).mono ?_); rintro e w3 ⟨rfl, hb⟩; have HF := Lib.hid (HF.out.below hb); clear hb; have a0 := HF.out.a.c 0; have a1 := HF.out.a.c 1; have a2 := HF.out.a.c 2; have a3 := HF.out.a.c 3; have a4 := HF.out.a.c 4; have a5 := HF.out.a.c 5; have b0 := HF.out.b.c 0; have b1 := HF.out.b.c 1; have b2 := HF.out.b.c 2; have b3 := HF.out.b.c 3; have b4 := HF.out.b.c 4; have b5 := HF.out.b.c 5; simp only [List.getElem?_toArray, List.getElem?_cons_zero, List.getElem?_cons_succ] at a0 a1 a2 a3 a4 a5 b0 b1 b2 b3 b4 b5)
            | (go_at_call_of 81 b.kind; go_must (refine (isBreak_q b.kind _ _ _ _ _ _ _ _ _ HVB.out).mono ?_); rintro e w3 ⟨rfl, hb⟩; have HF := Lib.hid (HF.out.below hb); clear hb; have a0 := HF.out.a.c 0; have a1 := HF.out.a.c 1; have a2 := HF.out.a.c 2; have a3 := HF.out.a.c 3; have a4 := HF.out.a.c 4; have a5 := HF.out.a.c 5; have b0 := HF.out.b.c 0; have b1 := HF.out.b.c 1; have b2 := HF.out.b.c 2; have b3 := HF.out.b.c 3; have b4 := HF.out.b.c 4; have b5 := HF.out.b.c 5; simp only [List.getElem?_toArray, List.getElem?_cons_zero, List.getElem?_cons_succ] at a0 a1 a2 a3 a4 a5 b0 b1 b2 b3 b4 b5)
            | (go_at_call_of 82 ca; go_must (refine (isBlank_q ca _ _ HBa.out).mono ?_); rintro e w3 ⟨rfl, hw3⟩; obtain rfl := hw3.symm)
            | (go_at_call_of 82 cb; go_must (refine (isBlank_q cb _ _ HBb.out).mono ?_); rintro e w3 ⟨rfl, hw3⟩; obtain rfl := hw3.symm)
            | (go_at_call 83; go_must (refine (HRec.out _ (Keeps.of_below HF.out.bel)).mono ?_); rintro e w3 ⟨rfl, hb⟩; have HF := Lib.hid (HF.out.below hb); clear hb))
          go_ret
          exact InlRes.mk HV3.out.symm HF.out.bel
        | false =>
          have HVB := Lib.hid hvb
          by_cases hak : a.kind = 11
          · have ta : (a.kind == 11) = true := by simp; omega
            by_cases has : 0 < a.text.size
            · obtain ⟨f1, f2, f3, f4⟩ := nonempty_forms has
              obtain ⟨ca, hca, hla⟩ := first_form has
              have hht : hdB (txt a) = blkB ca := hd_cons hla
              cases hba : blkB ca with
              | true =>
                have HBa := Lib.hid hba
                have hht2 := hht.trans hba
                clear hla hht hak hba
                have HV3 := Lib.hid (show lineB l kd = false by rw [HV.out, HEd.out, HEn.out]; simp [hva, hvb, ta, hht2])
                clear hva hvb hsk hht2
                go_wp2_with (first
                  | (go_at_call_of 81 a.kind; go_must (refine (isBreak_q a.kind _ _ _ _ _ _ _ _ _ HVA.out).mono ?_); rintro e w3 ⟨rfl, hb⟩; have HF := Lib.hid (HF.out.below hb); clear hb; have a0 := HF.out.a.c 0; have a1 := HF.out.a.c 1; have a2 := HF.out.a.c 2; have a3 := HF.out.a.c 3; have a4 := HF.out.a.c 4; have a5 := HF.out.a.c 5; have b0 := HF.out.b.c 0; have b1 := HF.out.b.c 1; have b2 := HF.out.b.c 2; have b3 := HF.out.b.c 3; have b4 := HF.out.b.c 4; have b5 := HF.out.b.c 5; simp only [List.getElem?_toArray, List.getElem?_cons_zero, List.getElem?_cons_succ] at a0 a1 a2 a3 a4 a5 b0 b1 b2 b3 b4 b5)
                  | (go_at_call_of 81 b.kind; go_must (refine (isBreak_q b.kind _ _ _ _ _ _ _ _ _ HVB.out).mono ?_); rintro e w3 ⟨rfl, hb⟩; have HF := Lib.hid (HF.out.below hb); clear hb; have a0 := HF.out.a.c 0; have a1 := HF.out.a.c 1; have a2 := HF.out.a.c 2; have a3 := HF.out.a.c 3; have a4 := HF.out.a.c 4; have a5 := HF.out.a.c 5; have b0 := HF.out.b.c 0; have b1 := HF.out.b.c 1; have b2 := HF.out.b.c 2; have b3 := HF.out.b.c 3; have b4 := HF.out.b.c 4; have b5 := HF.out.b.c 5; simp only [List.getElem?_toArray, List.getElem?_cons_zero, List.getElem?_cons_succ] at a0 a1 a2 a3 a4 a5 b0 b1 b2 b3 b4 b5)
                  | (go_at_call_of 82 ca; go_must (refine (isBlank_q ca _ _ HBa.out).mono ?_); rintro e w3 ⟨rfl, hw3⟩; obtain rfl := hw3.symm)
                  | (go_at_call_of 82 cb; go_must (refine (isBlank_q cb _ _ HBb.out).mono ?_); rintro e w3 ⟨rfl, hw3⟩; obtain rfl := hw3.symm)
                  | (go_at_call 83; go_must (refine (HRec.out _ (Keeps.of_below HF.out.bel)).mono ?_); rintro e w3 ⟨rfl, hb⟩; have HF := Lib.hid (HF.out.below hb); clear hb))
                go_ret
                exact InlRes.mk HV3.out.symm HF.out.bel
              | false =>
                have HBa := Lib.hid hba
                have hht2 := hht.trans hba
                clear hla hht hak hba
                by_cases hbk : b.kind = 11
                · have tb : (b.kind == 11) = true := by simp; omega
                  by_cases hbs : 0 < b.text.size
                  · obtain ⟨g1, g2, g3, g4⟩ := nonempty_forms hbs
                    obtain ⟨m, hm⟩ : ∃ m, b.text.size = m + 1 := ⟨b.text.size - 1, by omega⟩
                    have hm2 : m < b.text.size := by omega
                    have hwm : IntKind.i64.wrap (m : Int) = (m : Int) := IntWalk.i64_in _ (by omega)
                    obtain ⟨cb, hcb, hlb⟩ := last_form hm hm2
                    have hlt : ltB (txt b) = blkB cb := lt_snoc hlb
                    cases hbb : blkB cb with
                    | true =>
                      have HBb := Lib.hid hbb
                      have hlt2 := hlt.trans hbb
                      clear hlb hlt hbk hbb
                      have HV3 := Lib.hid (show lineB l kd = false by rw [HV.out, HEd.out, HEn.out]; simp [ta, hht2, hva, hvb, tb, hlt2])
                      clear hva hvb hsk hht2 hlt2
                      go_wp2_with (first
                        | (go_at_call_of 81 a.kind; go_must (refine (isBreak_q a.kind _ _ _ _ _ _ _ _ _ HVA.out).mono ?_); rintro e w3 ⟨rfl, hb⟩; have HF := Lib.hid (HF.out.below hb); clear hb; have a0 := HF.out.a.c 0; have a1 := HF.out.a.c 1; have a2 := HF.out.a.c 2; have a3 := HF.out.a.c 3; have a4 := HF.out.a.c 4; have a5 := HF.out.a.c 5; have b0 := HF.out.b.c 0; have b1 := HF.out.b.c 1; have b2 := HF.out.b.c 2; have b3 := HF.out.b.c 3; have b4 := HF.out.b.c 4; have b5 := HF.out.b.c 5; simp only [List.getElem?_toArray, List.getElem?_cons_zero, List.getElem?_cons_succ] at a0 a1 a2 a3 a4 a5 b0 b1 b2 b3 b4 b5)
                        | (go_at_call_of 81 b.kind; go_must (refine (isBreak_q b.kind _ _ _ _ _ _ _ _ _ HVB.out).mono ?_); rintro e w3 ⟨rfl, hb⟩; have HF := Lib.hid (HF.out.below hb); clear hb; have a0 := HF.out.a.c 0; have a1 := HF.out.a.c 1; have a2 := HF.out.a.c 2; have a3 := HF.out.a.c 3; have a4 := HF.out.a.c 4; have a5 := HF.out.a.c 5; have b0 := HF.out.b.c 0; have b1 := HF.out.b.c 1; have b2 := HF.out.b.c 2; have b3 := HF.out.b.c 3; have b4 := HF.out.b.c 4; have b5 := HF.out.b.c 5; simp only [List.getElem?_toArray, List.getElem?_cons_zero, List.getElem?_cons_succ] at a0 a1 a2 a3 a4 a5 b0 b1 b2 b3 b4 b5)
                        | (go_at_call_of 82 ca; go_must (refine (isBlank_q ca _ _ HBa.out).mono ?_); rintro e w3 ⟨rfl, hw3⟩; obtain rfl := hw3.symm)
                        | (go_at_call_of 82 cb; go_must (refine (isBlank_q cb _ _ HBb.out).mono ?_); rintro e w3 ⟨rfl, hw3⟩; obtain rfl := hw3.symm)
                        | (go_at_call 83; go_must (refine (HRec.out _ (Keeps.of_below HF.out.bel)).mono ?_); rintro e w3 ⟨rfl, hb⟩; have HF := Lib.hid (HF.out.below hb); clear hb))
                      go_ret
                      exact InlRes.mk HV3.out.symm HF.out.bel
                    | false =>
                      have HBb := Lib.hid hbb
                      have hlt2 := hlt.trans hbb
                      clear hlb hlt hbk hbb
                      have HV3 := Lib.hid (show lineB l kd = r by rw [HV.out, HEd.out, HEn.out]; simp [ta, hht2, hva, hvb, tb, hlt2, hsk])
                      clear hva hvb hsk hht2 hlt2
                      go_wp2_with (first
                        | (go_at_call_of 81 a.kind; go_must (refine (isBreak_q a.kind _ _ _ _ _ _ _ _ _ HVA.out).mono ?_); rintro e w3 ⟨rfl, hb⟩; have HF := Lib.hid (HF.out.below hb); clear hb; have a0 := HF.out.a.c 0; have a1 := HF.out.a.c 1; have a2 := HF.out.a.c 2; have a3 := HF.out.a.c 3; have a4 := HF.out.a.c 4; have a5 := HF.out.a.c 5; have b0 := HF.out.b.c 0; have b1 := HF.out.b.c 1; have b2 := HF.out.b.c 2; have b3 := HF.out.b.c 3; have b4 := HF.out.b.c 4; have b5 := HF.out.b.c 5; simp only [List.getElem?_toArray, List.getElem?_cons_zero, List.getElem?_cons_succ] at a0 a1 a2 a3 a4 a5 b0 b1 b2 b3 b4 b5)
                        | (go_at_call_of 81 b.kind; go_must (refine (isBreak_q b.kind _ _ _ _ _ _ _ _ _ HVB.out).mono ?_); rintro e w3 ⟨rfl, hb⟩; have HF := Lib.hid (HF.out.below hb); clear hb; have a0 := HF.out.a.c 0; have a1 := HF.out.a.c 1; have a2 := HF.out.a.c 2; have a3 := HF.out.a.c 3; have a4 := HF.out.a.c 4; have a5 := HF.out.a.c 5; have b0 := HF.out.b.c 0; have b1 := HF.out.b.c 1; have b2 := HF.out.b.c 2; have b3 := HF.out.b.c 3; have b4 := HF.out.b.c 4; have b5 := HF.out.b.c 5; simp only [List.getElem?_toArray, List.getElem?_cons_zero, List.getElem?_cons_succ] at a0 a1 a2 a3 a4 a5 b0 b1 b2 b3 b4 b5)
                        | (go_at_call_of 82 ca; go_must (refine (isBlank_q ca _ _ HBa.out).mono ?_); rintro e w3 ⟨rfl, hw3⟩; obtain rfl := hw3.symm)
                        | (go_at_call_of 82 cb; go_must (refine (isBlank_q cb _ _ HBb.out).mono ?_); rintro e w3 ⟨rfl, hw3⟩; obtain rfl := hw3.symm)
                        | (go_at_call 83; go_must (refine (HRec.out _ (Keeps.of_below HF.out.bel)).mono ?_); rintro e w3 ⟨rfl, hb⟩; have HF := Lib.hid (HF.out.below hb); clear hb))
                      go_ret
                      exact InlRes.mk HV3.out.symm HF.out.bel
                  · have hbe : b.text = ⟨#[]⟩ := empty_lit hbs
                    have hlt2 : ltB (txt b) = false := by unfold txt; rw [hbe]; rfl
                    have e1 : (b.text.toList == []) = true := by rw [hbe, Go.ByteArray.toList_eq]; rfl
                    have e2 : (b.text.toList != []) = false := by rw [hbe, Go.ByteArray.toList_eq]; rfl
                    have e3 : b.text.toList.isEmpty = true := by rw [hbe, Go.ByteArray.toList_eq]; rfl
                    have e4 : b.text.toList = [] := by rw [hbe, Go.ByteArray.toList_eq]
                    clear hbk hbe hbs
                    have HV3 := Lib.hid (show lineB l kd = r by rw [HV.out, HEd.out, HEn.out]; simp [ta, hht2, hva, hvb, tb, hlt2, hsk])
                    clear hva hvb hsk hht2 hlt2
                    go_wp2_with (first
                      | (go_at_call_of 81 a.kind; go_must (refine (isBreak_q a.kind _ _ _ _ _ _ _ _ _ HVA.out).mono ?_); rintro e w3 ⟨rfl, hb⟩; have HF := Lib.hid (HF.out.below hb); clear hb; have a0 := HF.out.a.c 0; have a1 := HF.out.a.c 1; have a2 := HF.out.a.c 2; have a3 := HF.out.a.c 3; have a4 := HF.out.a.c 4; have a5 := HF.out.a.c 5; have b0 := HF.out.b.c 0; have b1 := HF.out.b.c 1; have b2 := HF.out.b.c 2; have b3 := HF.out.b.c 3; have b4 := HF.out.b.c 4; have b5 := HF.out.b.c 5; simp only [List.getElem?_toArray, List.getElem?_cons_zero, List.getElem?_cons_succ] at a0 a1 a2 a3 a4 a5 b0 b1 b2 b3 b4 b5)
                      | (go_at_call_of 81 b.kind; go_must (refine (isBreak_q b.kind _ _ _ _ _ _ _ _ _ HVB.out).mono ?_); rintro e w3 ⟨rfl, hb⟩; have HF := Lib.hid (HF.out.below hb); clear hb; have a0 := HF.out.a.c 0; have a1 := HF.out.a.c 1; have a2 := HF.out.a.c 2; have a3 := HF.out.a.c 3; have a4 := HF.out.a.c 4; have a5 := HF.out.a.c 5; have b0 := HF.out.b.c 0; have b1 := HF.out.b.c 1; have b2 := HF.out.b.c 2; have b3 := HF.out.b.c 3; have b4 := HF.out.b.c 4; have b5 := HF.out.b.c 5; simp only [List.getElem?_toArray, List.getElem?_cons_zero, List.getElem?_cons_succ] at a0 a1 a2 a3 a4 a5 b0 b1 b2 b3 b4 b5)
                      | (go_at_call_of 82 ca; go_must (refine (isBlank_q ca _ _ HBa.out).mono ?_); rintro e w3 ⟨rfl, hw3⟩; obtain rfl := hw3.symm)
                      | (go_at_call_of 82 cb; go_must (refine (isBlank_q cb _ _ HBb.out).mono ?_); rintro e w3 ⟨rfl, hw3⟩; obtain rfl := hw3.symm)
                      | (go_at_call 83; go_must (refine (HRec.out _ (Keeps.of_below HF.out.bel)).mono ?_); rintro e w3 ⟨rfl, hb⟩; have HF := Lib.hid (HF.out.below hb); clear hb))
                    go_ret
                    exact InlRes.mk HV3.out.symm HF.out.bel
                · have tb : (b.kind == 11) = false := by simp; omega
                  clear hbk
                  have HV3 := Lib.hid (show lineB l kd = r by rw [HV.out, HEd.out, HEn.out]; simp [ta, hht2, hva, hvb, tb, hsk])
                  clear hva hvb hsk hht2
                  go_wp2_with (first
                    | (go_at_call_of 81 a.kind; go_must (refine (isBreak_q a.kind _ _ _ _ _ _ _ _ _ HVA.out).mono ?_); rintro e w3 ⟨rfl, hb⟩; have HF := Lib.hid (HF.out.below hb); clear hb; have a0 := HF.out.a.c 0; have a1 := HF.out.a.c 1; have a2 := HF.out.a.c 2; have a3 := HF.out.a.c 3; have a4 := HF.out.a.c 4; have a5 := HF.out.a.c 5; have b0 := HF.out.b.c 0; have b1 := HF.out.b.c 1; have b2 := HF.out.b.c 2; have b3 := HF.out.b.c 3; have b4 := HF.out.b.c 4; have b5 := HF.out.b.c 5; simp only [List.getElem?_toArray, List.getElem?_cons_zero, List.getElem?_cons_succ] at a0 a1 a2 a3 a4 a5 b0 b1 b2 b3 b4 b5)
                    | (go_at_call_of 81 b.kind; go_must (refine (isBreak_q b.kind _ _ _ _ _ _ _ _ _ HVB.out).mono ?_); rintro e w3 ⟨rfl, hb⟩; have HF := Lib.hid (HF.out.below hb); clear hb; have a0 := HF.out.a.c 0; have a1 := HF.out.a.c 1; have a2 := HF.out.a.c 2; have a3 := HF.out.a.c 3; have a4 := HF.out.a.c 4; have a5 := HF.out.a.c 5; have b0 := HF.out.b.c 0; have b1 := HF.out.b.c 1; have b2 := HF.out.b.c 2; have b3 := HF.out.b.c 3; have b4 := HF.out.b.c 4; have b5 := HF.out.b.c 5; simp only [List.getElem?_toArray, List.getElem?_cons_zero, List.getElem?_cons_succ] at a0 a1 a2 a3 a4 a5 b0 b1 b2 b3 b4 b5)
                    | (go_at_call_of 82 ca; go_must (refine (isBlank_q ca _ _ HBa.out).mono ?_); rintro e w3 ⟨rfl, hw3⟩; obtain rfl := hw3.symm)
                    | (go_at_call_of 82 cb; go_must (refine (isBlank_q cb _ _ HBb.out).mono ?_); rintro e w3 ⟨rfl, hw3⟩; obtain rfl := hw3.symm)
                    | (go_at_call 83; go_must (refine (HRec.out _ (Keeps.of_below HF.out.bel)).mono ?_); rintro e w3 ⟨rfl, hb⟩; have HF := Lib.hid (HF.out.below hb); clear hb))
                  go_ret
                  exact InlRes.mk HV3.out.symm HF.out.bel
            · have hae : a.text = ⟨#[]⟩ := empty_lit has
              have hht2 : hdB (txt a) = false := by unfold txt; rw [hae]; rfl
              have d1 : (a.text.toList == []) = true := by rw [hae, Go.ByteArray.toList_eq]; rfl
              have d2 : (a.text.toList != []) = false := by rw [hae, Go.ByteArray.toList_eq]; rfl
              have d3 : a.text.toList.isEmpty = true := by rw [hae, Go.ByteArray.toList_eq]; rfl
              have d4 : a.text.toList = [] := by rw [hae, Go.ByteArray.toList_eq]
              clear hak hae has
              by_cases hbk : b.kind = 11
              · have tb : (b.kind == 11) = true := by simp; omega
                by_cases hbs : 0 < b.text.size
                · obtain ⟨g1, g2, g3, g4⟩ := nonempty_forms hbs
                  obtain ⟨m, hm⟩ : ∃ m, b.text.size = m + 1 := ⟨b.text.size - 1, by omega⟩
                  have hm2 : m < b.text.size := by omega
                  have hwm : IntKind.i64.wrap (m : Int) = (m : Int) := IntWalk.i64_in _ (by omega)
                  obtain ⟨cb, hcb, hlb⟩ := last_form hm hm2
                  have hlt : ltB (txt b) = blkB cb := lt_snoc hlb
                  cases hbb : blkB cb with
                  | true =>
                    have HBb := Lib.hid hbb
                    have hlt2 := hlt.trans hbb
                    clear hlb hlt hbk hbb
                    have HV3 := Lib.hid (show lineB l kd = false by rw [HV.out, HEd.out, HEn.out]; simp [ta, hht2, hva, hvb, tb, hlt2])
                    clear hva hvb hsk hht2 hlt2
                    go_wp2_with (first
                      | (go_at_call_of 81 a.kind; go_must (refine (isBreak_q a.kind _ _ _ _ _ _ _ _ _ HVA.out).mono ?_); rintro e w3 ⟨rfl, hb⟩; have HF := Lib.hid (HF.out.below hb); clear hb; have a0 := HF.out.a.c 0; have a1 := HF.out.a.c 1; have a2 := HF.out.a.c 2; have a3 := HF.out.a.c 3; have a4 := HF.out.a.c 4; have a5 := HF.out.a.c 5; have b0 := HF.out.b.c 0; have b1 := HF.out.b.c 1; have b2 := HF.out.b.c 2; have b3 := HF.out.b.c 3; have b4 := HF.out.b.c 4; have b5 := HF.out.b.c 5; simp only [List.getElem?_toArray, List.getElem?_cons_zero, List.getElem?_cons_succ] at a0 a1 a2 a3 a4 a5 b0 b1 b2 b3 b4 b5)
                      | (go_at_call_of 81 b.kind; go_must (refine (isBreak_q b.kind _ _ _ _ _ _ _ _ _ HVB.out).mono ?_); rintro e w3 ⟨rfl, hb⟩; have HF := Lib.hid (HF.out.below hb); clear hb; have a0 := HF.out.a.c 0; have a1 := HF.out.a.c 1; have a2 := HF.out.a.c 2; have a3 := HF.out.a.c 3; have a4 := HF.out.a.c 4; have a5 := HF.out.a.c 5; have b0 := HF.out.b.c 0; have b1 := HF.out.b.c 1; have b2 := HF.out.b.c 2; have b3 := HF.out.b.c 3; have b4 := HF.out.b.c 4; have b5 := HF.out.b.c 5; simp only [List.getElem?_toArray, List.getElem?_cons_zero, List.getElem?_cons_succ] at a0 a1 a2 a3 a4 a5 b0 b1 b2 b3 b4 b5)
                      | (go_at_call_of 82 ca; go_must (refine (isBlank_q ca _ _ HBa.out).mono ?_); rintro e w3 ⟨rfl, hw3⟩; obtain rfl := hw3.symm)
                      | (go_at_call_of 82 cb; go_must (refine (isBlank_q cb _ _ HBb.out).mono ?_); rintro e w3 ⟨rfl, hw3⟩; obtain rfl := hw3.symm)
                      | (go_at_call 83; go_must (refine (HRec.out _ (Keeps.of_below HF.out.bel)).mono ?_); rintro e w3 ⟨rfl, hb⟩; have HF := Lib.hid (HF.out.below hb); clear hb))
                    go_ret
                    exact InlRes.mk HV3.out.symm HF.out.bel
                  | false =>
                    have HBb := Lib.hid hbb
                    have hlt2 := hlt.trans hbb
                    clear hlb hlt hbk hbb
                    have HV3 := Lib.hid (show lineB l kd = r by rw [HV.out, HEd.out, HEn.out]; simp [ta, hht2, hva, hvb, tb, hlt2, hsk])
                    clear hva hvb hsk hht2 hlt2
                    go_wp2_with (first
                      | (go_at_call_of 81 a.kind; go_must (refine (isBreak_q a.kind _ _ _ _ _ _ _ _ _ HVA.out).mono ?_); rintro e w3 ⟨rfl, hb⟩; have HF := Lib.hid (HF.out.below hb); clear hb; have a0 := HF.out.a.c 0; have a1 := HF.out.a.c 1; have a2 := HF.out.a.c 2; have a3 := HF.out.a.c 3; have a4 := HF.out.a.c 4; have a5 := HF.out.a.c 5; have b0 := HF.out.b.c 0; have b1 := HF.out.b.c 1; have b2 := HF.out.b.c 2; have b3 := HF.out.b.c 3; have b4 := HF.out.b.c 4; have b5 := HF.out.b.c 5; simp only [List.getElem?_toArray, List.getElem?_cons_zero, List.getElem?_cons_succ] at a0 a1 a2 a3 a4 a5 b0 b1 b2 b3 b4 b5)
                      | (go_at_call_of 81 b.kind; go_must (refine (isBreak_q b.kind _ _ _ _ _ _ _ _ _ HVB.out).mono ?_); rintro e w3 ⟨rfl, hb⟩; have HF := Lib.hid (HF.out.below hb); clear hb; have a0 := HF.out.a.c 0; have a1 := HF.out.a.c 1; have a2 := HF.out.a.c 2; have a3 := HF.out.a.c 3; have a4 := HF.out.a.c 4; have a5 := HF.out.a.c 5; have b0 := HF.out.b.c 0; have b1 := HF.out.b.c 1; have b2 := HF.out.b.c 2; have b3 := HF.out.b.c 3; have b4 := HF.out.b.c 4; have b5 := HF.out.b.c 5; simp only [List.getElem?_toArray, List.getElem?_cons_zero, List.getElem?_cons_succ] at a0 a1 a2 a3 a4 a5 b0 b1 b2 b3 b4 b5)
                      | (go_at_call_of 82 ca; go_must (refine (isBlank_q ca _ _ HBa.out).mono ?_); rintro e w3 ⟨rfl, hw3⟩; obtain rfl := hw3.symm)
                      | (go_at_call_of 82 cb; go_must (refine (isBlank_q cb _ _ HBb.out).mono ?_); rintro e w3 ⟨rfl, hw3⟩; obtain rfl := hw3.symm)
                      | (go_at_call 83; go_must (refine (HRec.out _ (Keeps.of_below HF.out.bel)).mono ?_); rintro e w3 ⟨rfl, hb⟩; have HF := Lib.hid (HF.out.below hb); clear hb))
                    go_ret
                    exact InlRes.mk HV3.out.symm HF.out.bel
                · have hbe : b.text = ⟨#[]⟩ := empty_lit hbs
                  have hlt2 : ltB (txt b) = false := by unfold txt; rw [hbe]; rfl
                  have e1 : (b.text.toList == []) = true := by rw [hbe, Go.ByteArray.toList_eq]; rfl
                  have e2 : (b.text.toList != []) = false := by rw [hbe, Go.ByteArray.toList_eq]; rfl
                  have e3 : b.text.toList.isEmpty = true := by rw [hbe, Go.ByteArray.toList_eq]; rfl
                  have e4 : b.text.toList = [] := by rw [hbe, Go.ByteArray.toList_eq]
                  clear hbk hbe hbs
                  have HV3 := Lib.hid (show lineB l kd = r by rw [HV.out, HEd.out, HEn.out]; simp [ta, hht2, hva, hvb, tb, hlt2, hsk])
                  clear hva hvb hsk hht2 hlt2
                  go_wp2_with (first
                    | (go_at_call_of 81 a.kind; go_must (refine (isBreak_q a.kind _ _ _ _ _ _ _ _ _ HVA.out).mono ?_); rintro e w3 ⟨rfl, hb⟩; have HF := Lib.hid (HF.out.below hb); clear hb; have a0 := HF.out.a.c 0; have a1 := HF.out.a.c 1; have a2 := HF.out.a.c 2; have a3 := HF.out.a.c 3; have a4 := HF.out.a.c 4; have a5 := HF.out.a.c 5; have b0 := HF.out.b.c 0; have b1 := HF.out.b.c 1; have b2 := HF.out.b.c 2; have b3 := HF.out.b.c 3; have b4 := HF.out.b.c 4; have b5 := HF.out.b.c 5; simp only [List.getElem?_toArray, List.getElem?_cons_zero, List.getElem?_cons_succ] at a0 a1 a2 a3 a4 a5 b0 b1 b2 b3 b4 b5)
                    | (go_at_call_of 81 b.kind; go_must (refine (isBreak_q b.kind _ _ _ _ _ _ _ _ _ HVB.out).mono ?_); rintro e w3 ⟨rfl, hb⟩; have HF := Lib.hid (HF.out.below hb); clear hb; have a0 := HF.out.a.c 0; have a1 := HF.out.a.c 1; have a2 := HF.out.a.c 2; have a3 := HF.out.a.c 3; have a4 := HF.out.a.c 4; have a5 := HF.out.a.c 5; have b0 := HF.out.b.c 0; have b1 := HF.out.b.c 1; have b2 := HF.out.b.c 2; have b3 := HF.out.b.c 3; have b4 := HF.out.b.c 4; have b5 := HF.out.b.c 5; simp only [List.getElem?_toArray, List.getElem?_cons_zero, List.getElem?_cons_succ] at a0 a1 a2 a3 a4 a5 b0 b1 b2 b3 b4 b5)
                    | (go_at_call_of 82 ca; go_must (refine (isBlank_q ca _ _ HBa.out).mono ?_); rintro e w3 ⟨rfl, hw3⟩; obtain rfl := hw3.symm)
                    | (go_at_call_of 82 cb; go_must (refine (isBlank_q cb _ _ HBb.out).mono ?_); rintro e w3 ⟨rfl, hw3⟩; obtain rfl := hw3.symm)
                    | (go_at_call 83; go_must (refine (HRec.out _ (Keeps.of_below HF.out.bel)).mono ?_); rintro e w3 ⟨rfl, hb⟩; have HF := Lib.hid (HF.out.below hb); clear hb))
                  go_ret
                  exact InlRes.mk HV3.out.symm HF.out.bel
              · have tb : (b.kind == 11) = false := by simp; omega
                clear hbk
                have HV3 := Lib.hid (show lineB l kd = r by rw [HV.out, HEd.out, HEn.out]; simp [ta, hht2, hva, hvb, tb, hsk])
                clear hva hvb hsk hht2
                go_wp2_with (first
                  | (go_at_call_of 81 a.kind; go_must (refine (isBreak_q a.kind _ _ _ _ _ _ _ _ _ HVA.out).mono ?_); rintro e w3 ⟨rfl, hb⟩; have HF := Lib.hid (HF.out.below hb); clear hb; have a0 := HF.out.a.c 0; have a1 := HF.out.a.c 1; have a2 := HF.out.a.c 2; have a3 := HF.out.a.c 3; have a4 := HF.out.a.c 4; have a5 := HF.out.a.c 5; have b0 := HF.out.b.c 0; have b1 := HF.out.b.c 1; have b2 := HF.out.b.c 2; have b3 := HF.out.b.c 3; have b4 := HF.out.b.c 4; have b5 := HF.out.b.c 5; simp only [List.getElem?_toArray, List.getElem?_cons_zero, List.getElem?_cons_succ] at a0 a1 a2 a3 a4 a5 b0 b1 b2 b3 b4 b5)
                  | (go_at_call_of 81 b.kind; go_must (refine (isBreak_q b.kind _ _ _ _ _ _ _ _ _ HVB.out).mono ?_); rintro e w3 ⟨rfl, hb⟩; have HF := Lib.hid (HF.out.below hb); clear hb; have a0 := HF.out.a.c 0; have a1 := HF.out.a.c 1; have a2 := HF.out.a.c 2; have a3 := HF.out.a.c 3; have a4 := HF.out.a.c 4; have a5 := HF.out.a.c 5; have b0 := HF.out.b.c 0; have b1 := HF.out.b.c 1; have b2 := HF.out.b.c 2; have b3 := HF.out.b.c 3; have b4 := HF.out.b.c 4; have b5 := HF.out.b.c 5; simp only [List.getElem?_toArray, List.getElem?_cons_zero, List.getElem?_cons_succ] at a0 a1 a2 a3 a4 a5 b0 b1 b2 b3 b4 b5)
                  | (go_at_call_of 82 ca; go_must (refine (isBlank_q ca _ _ HBa.out).mono ?_); rintro e w3 ⟨rfl, hw3⟩; obtain rfl := hw3.symm)
                  | (go_at_call_of 82 cb; go_must (refine (isBlank_q cb _ _ HBb.out).mono ?_); rintro e w3 ⟨rfl, hw3⟩; obtain rfl := hw3.symm)
                  | (go_at_call 83; go_must (refine (HRec.out _ (Keeps.of_below HF.out.bel)).mono ?_); rintro e w3 ⟨rfl, hb⟩; have HF := Lib.hid (HF.out.below hb); clear hb))
                go_ret
                exact InlRes.mk HV3.out.symm HF.out.bel
          · have ta : (a.kind == 11) = false := by simp; omega
            clear hak
            by_cases hbk : b.kind = 11
            · have tb : (b.kind == 11) = true := by simp; omega
              by_cases hbs : 0 < b.text.size
              · obtain ⟨g1, g2, g3, g4⟩ := nonempty_forms hbs
                obtain ⟨m, hm⟩ : ∃ m, b.text.size = m + 1 := ⟨b.text.size - 1, by omega⟩
                have hm2 : m < b.text.size := by omega
                have hwm : IntKind.i64.wrap (m : Int) = (m : Int) := IntWalk.i64_in _ (by omega)
                obtain ⟨cb, hcb, hlb⟩ := last_form hm hm2
                have hlt : ltB (txt b) = blkB cb := lt_snoc hlb
                cases hbb : blkB cb with
                | true =>
                  have HBb := Lib.hid hbb
                  have hlt2 := hlt.trans hbb
                  clear hlb hlt hbk hbb
                  have HV3 := Lib.hid (show lineB l kd = false by rw [HV.out, HEd.out, HEn.out]; simp [ta, hva, hvb, tb, hlt2])
                  clear hva hvb hsk hlt2
                  go_wp2_with (first
                    | (go_at_call_of 81 a.kind; go_must (refine (isBreak_q a.kind _ _ _ _ _ _ _ _ _ HVA.out).mono ?_); rintro e w3 ⟨rfl, hb⟩; have HF := Lib.hid (HF.out.below hb); clear hb; have a0 := HF.out.a.c 0; have a1 := HF.out.a.c 1; have a2 := HF.out.a.c 2; have a3 := HF.out.a.c 3; have a4 := HF.out.a.c 4; have a5 := HF.out.a.c 5; have b0 := HF.out.b.c 0; have b1 := HF.out.b.c 1; have b2 := HF.out.b.c 2; have b3 := HF.out.b.c 3; have b4 := HF.out.b.c 4; have b5 := HF.out.b.c 5; simp only [List.getElem?_toArray, List.getElem?_cons_zero, List.getElem?_cons_succ] at a0 a1 a2 a3 a4 a5 b0 b1 b2 b3 b4 b5)
                    | (go_at_call_of 81 b.kind; go_must (refine (isBreak_q b.kind _ _ _ _ _ _ _ _ _ HVB.out).mono ?_); rintro e w3 ⟨rfl, hb⟩; have HF := Lib.hid (HF.out.below hb); clear hb; have a0 := HF.out.a.c 0; have a1 := HF.out.a.c 1; have a2 := HF.out.a.c 2; have a3 := HF.out.a.c 3; have a4 := HF.out.a.c 4; have a5 := HF.out.a.c 5; have b0 := HF.out.b.c 0; have b1 := HF.out.b.c 1; have b2 := HF.out.b.c 2; have b3 := HF.out.b.c 3; have b4 := HF.out.b.c 4; have b5 := HF.out.b.c 5; simp only [List.getElem?_toArray, List.getElem?_cons_zero, List.getElem?_cons_succ] at a0 a1 a2 a3 a4 a5 b0 b1 b2 b3 b4 b5)
                    | (go_at_call_of 82 ca; go_must (refine (isBlank_q ca _ _ HBa.out).mono ?_); rintro e w3 ⟨rfl, hw3⟩; obtain rfl := hw3.symm)
                    | (go_at_call_of 82 cb; go_must (refine (isBlank_q cb _ _ HBb.out).mono ?_); rintro e w3 ⟨rfl, hw3⟩; obtain rfl := hw3.symm)
                    | (go_at_call 83; go_must (refine (HRec.out _ (Keeps.of_below HF.out.bel)).mono ?_); rintro e w3 ⟨rfl, hb⟩; have HF := Lib.hid (HF.out.below hb); clear hb))
                  go_ret
                  exact InlRes.mk HV3.out.symm HF.out.bel
                | false =>
                  have HBb := Lib.hid hbb
                  have hlt2 := hlt.trans hbb
                  clear hlb hlt hbk hbb
                  have HV3 := Lib.hid (show lineB l kd = r by rw [HV.out, HEd.out, HEn.out]; simp [ta, hva, hvb, tb, hlt2, hsk])
                  clear hva hvb hsk hlt2
                  go_wp2_with (first
                    | (go_at_call_of 81 a.kind; go_must (refine (isBreak_q a.kind _ _ _ _ _ _ _ _ _ HVA.out).mono ?_); rintro e w3 ⟨rfl, hb⟩; have HF := Lib.hid (HF.out.below hb); clear hb; have a0 := HF.out.a.c 0; have a1 := HF.out.a.c 1; have a2 := HF.out.a.c 2; have a3 := HF.out.a.c 3; have a4 := HF.out.a.c 4; have a5 := HF.out.a.c 5; have b0 := HF.out.b.c 0; have b1 := HF.out.b.c 1; have b2 := HF.out.b.c 2; have b3 := HF.out.b.c 3; have b4 := HF.out.b.c 4; have b5 := HF.out.b.c 5; simp only [List.getElem?_toArray, List.getElem?_cons_zero, List.getElem?_cons_succ] at a0 a1 a2 a3 a4 a5 b0 b1 b2 b3 b4 b5)
                    | (go_at_call_of 81 b.kind; go_must (refine (isBreak_q b.kind _ _ _ _ _ _ _ _ _ HVB.out).mono ?_); rintro e w3 ⟨rfl, hb⟩; have HF := Lib.hid (HF.out.below hb); clear hb; have a0 := HF.out.a.c 0; have a1 := HF.out.a.c 1; have a2 := HF.out.a.c 2; have a3 := HF.out.a.c 3; have a4 := HF.out.a.c 4; have a5 := HF.out.a.c 5; have b0 := HF.out.b.c 0; have b1 := HF.out.b.c 1; have b2 := HF.out.b.c 2; have b3 := HF.out.b.c 3; have b4 := HF.out.b.c 4; have b5 := HF.out.b.c 5; simp only [List.getElem?_toArray, List.getElem?_cons_zero, List.getElem?_cons_succ] at a0 a1 a2 a3 a4 a5 b0 b1 b2 b3 b4 b5)
                    | (go_at_call_of 82 ca; go_must (refine (isBlank_q ca _ _ HBa.out).mono ?_); rintro e w3 ⟨rfl, hw3⟩; obtain rfl := hw3.symm)
                    | (go_at_call_of 82 cb; go_must (refine (isBlank_q cb _ _ HBb.out).mono ?_); rintro e w3 ⟨rfl, hw3⟩; obtain rfl := hw3.symm)
                    | (go_at_call 83; go_must (refine (HRec.out _ (Keeps.of_below HF.out.bel)).mono ?_); rintro e w3 ⟨rfl, hb⟩; have HF := Lib.hid (HF.out.below hb); clear hb))
                  go_ret
                  exact InlRes.mk HV3.out.symm HF.out.bel
              · have hbe : b.text = ⟨#[]⟩ := empty_lit hbs
                have hlt2 : ltB (txt b) = false := by unfold txt; rw [hbe]; rfl
                have e1 : (b.text.toList == []) = true := by rw [hbe, Go.ByteArray.toList_eq]; rfl
                have e2 : (b.text.toList != []) = false := by rw [hbe, Go.ByteArray.toList_eq]; rfl
                have e3 : b.text.toList.isEmpty = true := by rw [hbe, Go.ByteArray.toList_eq]; rfl
                have e4 : b.text.toList = [] := by rw [hbe, Go.ByteArray.toList_eq]
                clear hbk hbe hbs
                have HV3 := Lib.hid (show lineB l kd = r by rw [HV.out, HEd.out, HEn.out]; simp [ta, hva, hvb, tb, hlt2, hsk])
                clear hva hvb hsk hlt2
                go_wp2_with (first
                  | (go_at_call_of 81 a.kind; go_must (refine (isBreak_q a.kind _ _ _ _ _ _ _ _ _ HVA.out).mono ?_); rintro e w3 ⟨rfl, hb⟩; have HF := Lib.hid (HF.out.below hb); clear hb; have a0 := HF.out.a.c 0; have a1 := HF.out.a.c 1; have a2 := HF.out.a.c 2; have a3 := HF.out.a.c 3; have a4 := HF.out.a.c 4; have a5 := HF.out.a.c 5; have b0 := HF.out.b.c 0; have b1 := HF.out.b.c 1; have b2 := HF.out.b.c 2; have b3 := HF.out.b.c 3; have b4 := HF.out.b.c 4; have b5 := HF.out.b.c 5; simp only [List.getElem?_toArray, List.getElem?_cons_zero, List.getElem?_cons_succ] at a0 a1 a2 a3 a4 a5 b0 b1 b2 b3 b4 b5)
                  | (go_at_call_of 81 b.kind; go_must (refine (isBreak_q b.kind _ _ _ _ _ _ _ _ _ HVB.out).mono ?_); rintro e w3 ⟨rfl, hb⟩; have HF := Lib.hid (HF.out.below hb); clear hb; have a0 := HF.out.a.c 0; have a1 := HF.out.a.c 1; have a2 := HF.out.a.c 2; have a3 := HF.out.a.c 3; have a4 := HF.out.a.c 4; have a5 := HF.out.a.c 5; have b0 := HF.out.b.c 0; have b1 := HF.out.b.c 1; have b2 := HF.out.b.c 2; have b3 := HF.out.b.c 3; have b4 := HF.out.b.c 4; have b5 := HF.out.b.c 5; simp only [List.getElem?_toArray, List.getElem?_cons_zero, List.getElem?_cons_succ] at a0 a1 a2 a3 a4 a5 b0 b1 b2 b3 b4 b5)
                  | (go_at_call_of 82 ca; go_must (refine (isBlank_q ca _ _ HBa.out).mono ?_); rintro e w3 ⟨rfl, hw3⟩; obtain rfl := hw3.symm)
                  | (go_at_call_of 82 cb; go_must (refine (isBlank_q cb _ _ HBb.out).mono ?_); rintro e w3 ⟨rfl, hw3⟩; obtain rfl := hw3.symm)
                  | (go_at_call 83; go_must (refine (HRec.out _ (Keeps.of_below HF.out.bel)).mono ?_); rintro e w3 ⟨rfl, hb⟩; have HF := Lib.hid (HF.out.below hb); clear hb))
                go_ret
                exact InlRes.mk HV3.out.symm HF.out.bel
            · have tb : (b.kind == 11) = false := by simp; omega
              clear hbk
              have HV3 := Lib.hid (show lineB l kd = r by rw [HV.out, HEd.out, HEn.out]; simp [ta, hva, hvb, tb, hsk])
              clear hva hvb hsk
              go_wp2_with (first
                | (go_at_call_of 81 a.kind; go_must (refine (isBreak_q a.kind _ _ _ _ _ _ _ _ _ HVA.out).mono ?_); rintro e w3 ⟨rfl, hb⟩; have HF := Lib.hid (HF.out.below hb); clear hb; have a0 := HF.out.a.c 0; have a1 := HF.out.a.c 1; have a2 := HF.out.a.c 2; have a3 := HF.out.a.c 3; have a4 := HF.out.a.c 4; have a5 := HF.out.a.c 5; have b0 := HF.out.b.c 0; have b1 := HF.out.b.c 1; have b2 := HF.out.b.c 2; have b3 := HF.out.b.c 3; have b4 := HF.out.b.c 4; have b5 := HF.out.b.c 5; simp only [List.getElem?_toArray, List.getElem?_cons_zero, List.getElem?_cons_succ] at a0 a1 a2 a3 a4 a5 b0 b1 b2 b3 b4 b5)
                | (go_at_call_of 81 b.kind; go_must (refine (isBreak_q b.kind _ _ _ _ _ _ _ _ _ HVB.out).mono ?_); rintro e w3 ⟨rfl, hb⟩; have HF := Lib.hid (HF.out.below hb); clear hb; have a0 := HF.out.a.c 0; have a1 := HF.out.a.c 1; have a2 := HF.out.a.c 2; have a3 := HF.out.a.c 3; have a4 := HF.out.a.c 4; have a5 := HF.out.a.c 5; have b0 := HF.out.b.c 0; have b1 := HF.out.b.c 1; have b2 := HF.out.b.c 2; have b3 := HF.out.b.c 3; have b4 := HF.out.b.c 4; have b5 := HF.out.b.c 5; simp only [List.getElem?_toArray, List.getElem?_cons_zero, List.getElem?_cons_succ] at a0 a1 a2 a3 a4 a5 b0 b1 b2 b3 b4 b5)
                | (go_at_call_of 82 ca; go_must (refine (isBlank_q ca _ _ HBa.out).mono ?_); rintro e w3 ⟨rfl, hw3⟩; obtain rfl := hw3.symm)
                | (go_at_call_of 82 cb; go_must (refine (isBlank_q cb _ _ HBb.out).mono ?_); rintro e w3 ⟨rfl, hw3⟩; obtain rfl := hw3.symm)
                | (go_at_call 83; go_must (refine (HRec.out _ (Keeps.of_below HF.out.bel)).mono ?_); rintro e w3 ⟨rfl, hb⟩; have HF := Lib.hid (HF.out.below hb); clear hb))
              go_ret
              exact InlRes.mk HV3.out.symm HF.out.bel

end Go.Proofs.YtlganccpgchmeaaDoor
