/-
  Lines that can be printed, by the reference: mastref1.goodLine.
-/
import Derived.Test.YtlganccpgchmeaaDoorFitRList
namespace Go.Proofs.YtlganccpgchmeaaDoor
open Go.RowKit Go.Deep

set_option maxRecDepth 100000 in
set_option maxHeartbeats 16000000 in
theorem goodLine_q (n : Node) (A : Option Addr) (c : Nat) (w : World) (h : NodesAt w (.slice A n.kids.length c) n.kids) (he : nodesErr n.kids n.kind = 0) (hp : noBlk n.kind = true) (hw : weight n.kids ≤ 1073741824) :
    Calls Tryd.prog 40 #[.agg #[.int .i64 n.kind, .int .i64 n.level, .string n.text, .string n.dest, .string n.title, .slice A n.kids.length c]] w (InlRes (lineB n.kids n.kind) w) := by
  have HX := Lib.hid (CB.new w #[.int .i64 n.kind, .int .i64 n.level, .string n.text, .string n.dest, .string n.title, .slice A n.kids.length c] 31)
  have HB := Lib.hid ((Below.refl w.heap.size w).alloc (Nat.le_refl _) (.cells #[.int .i64 n.kind, .int .i64 n.level, .string n.text, .string n.dest, .string n.title, .slice A n.kids.length c] 31))
  obtain ⟨W1, hW1⟩ : ∃ W, w.alloc (.cells #[.int .i64 n.kind, .int .i64 n.level, .string n.text, .string n.dest, .string n.title, .slice A n.kids.length c] 31) = W := ⟨_, rfl⟩
  rw [hW1] at HX HB
  obtain ⟨ce, hce⟩ : ∃ b, (n.kind == 10) = b := ⟨_, rfl⟩
  obtain ⟨ls, hls⟩ : ∃ b, (n.kind == 2) = b := ⟨_, rfl⟩
  have hrec : ∀ W, Keeps W1 W → Calls Tryd.prog 60 #[.slice A n.kids.length c, .int .i64 n.kind, .agg #[.bool false, .bool false, .bool false, .bool ce, .bool ls]] W (InlRes (edgeB n.kind n.kids && inlL n.kids none false false false n.kind) W) := fun W hW => goodInlines_any _ n.kids _ n.kind false false false ce ls n.kind n.kind W (Nat.le_refl _) ((h.keep (Keeps.of_below HB.out)).keep hW) he hp hw hce hls
  have hll : n.kids.length ≤ 1073741824 := Nat.le_trans (len_weight n.kids) hw
  obtain ⟨r, hr⟩ : ∃ r, (edgeB n.kind n.kids && inlL n.kids none false false false n.kind) = r := ⟨_, rfl⟩
  have HR := Lib.hid hr
  have HRec := Lib.hid hrec
  have HV := Lib.hid (show lineB n.kids n.kind = (endsB n.kids && r) by rw [← hr]; unfold lineB; rw [Bool.and_assoc])
  have p0 := HX.out.c 0
  have p1 := HX.out.c 1
  have p2 := HX.out.c 2
  have p3 := HX.out.c 3
  have p4 := HX.out.c 4
  have p5 := HX.out.c 5
  simp only [List.getElem?_toArray, List.getElem?_cons_zero, List.getElem?_cons_succ] at p0 p1 p2 p3 p4 p5
  by_cases hke : n.kids.length = 0
  · have hl0 : n.kids = [] := List.length_eq_zero_iff.1 hke
    have HV3 := Lib.hid (show lineB n.kids n.kind = r by rw [HV.out, hl0]; rfl)
    have hkz : decide (0 < (n.kids.length : Int)) = false := by simp; omega
    have hkz2 : ¬ 0 < n.kids.length := by omega
    clear hrec hl0 hke h he hp hw hr
    go_enter Tryd.func40, Tryd.ntmps40
    go_wp2_with (first
      | (go_at_call 60; go_must (refine (HRec.out _ (Keeps.refl _)).mono ?_); rw [HR.out]; rintro e w3 ⟨rfl, hb⟩; have HB2 := Lib.hid (HB.out.trans (hb.mono HB.out.size)); clear hb))
    go_ret
    exact InlRes.mk HV3.out.symm HB2.out
  · obtain ⟨A', c', bl, o, kv, hv, hlc, hcm, hA, hcell, hkid⟩ := h.inv
    cases hv
    obtain ⟨q, hq⟩ : ∃ q, n.kids.length = q + 1 := ⟨n.kids.length - 1, by omega⟩
    have hA2 := hA (by intro h0; rw [h0] at hq; simp at hq)
    subst hA2
    obtain ⟨a, ha⟩ : ∃ a, n.kids[0]? = some a := ⟨_, List.getElem?_eq_getElem (by omega)⟩
    obtain ⟨b, hb⟩ : ∃ b, n.kids[q]? = some b := ⟨_, List.getElem?_eq_getElem (by omega)⟩
    obtain ⟨a0, a1, a2, a3, a4, a5, _, _, _, _, _⟩ := (hcell 0 a ha).keep (Keeps.of_below HB.out)
    obtain ⟨b0, b1, b2, b3, b4, b5, _, _, _, _, _⟩ := (hcell q b hb).keep (Keeps.of_below HB.out)
    simp only [Nat.zero_mul, Nat.add_zero] at a0 a1 a2 a3 a4 a5
    have hsa := node_sizes ha
    have hsb := node_sizes hb
    have hats : a.text.size ≤ 1073741824 := by omega
    have hbts : b.text.size ≤ 1073741824 := by omega
    have HEn := Lib.hid (ends_ends hq ha hb)
    obtain ⟨ua, hua⟩ : ∃ v, hdB a.text.data.toList = v := ⟨_, rfl⟩
    obtain ⟨va, hva⟩ : ∃ v, ltB a.text.data.toList = v := ⟨_, rfl⟩
    obtain ⟨ub, hub⟩ : ∃ v, hdB b.text.data.toList = v := ⟨_, rfl⟩
    obtain ⟨vb, hvb⟩ : ∃ v, ltB b.text.data.toList = v := ⟨_, rfl⟩
    have HUa := Lib.hid hua
    have HVa := Lib.hid hva
    have HUb := Lib.hid hub
    have HVb := Lib.hid hvb
    obtain ⟨ta, hta⟩ : ∃ v, (a.kind == 11) = v := ⟨_, rfl⟩
    obtain ⟨tb, htb⟩ : ∃ v, (b.kind == 11) = v := ⟨_, rfl⟩
    have HV3 := Lib.hid (show lineB n.kids n.kind = (!((ta && ua) || (tb && vb)) && r) by
      rw [HV.out, HEn.out, ← hta, ← htb, ← hua, ← hvb]; rfl)
    have hqc : q + 1 ≤ c := by omega
    have hq9 : q ≤ 1073741824 := by omega
    have hcm2 : c ≤ 9223372036854775807 := by unfold maxLen at hcm; omega
    have hwq : IntKind.i64.wrap (q : Int) = (q : Int) := IntWalk.i64_in _ (by omega)
    clear hrec hr hcell hkid hA ha hb hcm hke h hlc he hp hw hsa hsb hll hua hva hub hvb
    rw [hq] at HRec p5 hW1
    cases ta with
    | false =>
      cases tb with
      | false =>
        have HV4 := Lib.hid (HV3.out.trans (by first | rfl | simp : _ = r))
        rw [hq]
        clear hq
        go_enter Tryd.func40, Tryd.ntmps40
        go_wp2_with (first
          | (go_at_call_of 59 a.text; go_must (refine (blankEnds_r a.text _ _ _ HUa.out HVa.out hats).mono ?_); rintro e w3 ⟨rfl, hw3⟩; obtain rfl := hw3.symm)
          | (go_at_call_of 59 b.text; go_must (refine (blankEnds_r b.text _ _ _ HUb.out HVb.out hbts).mono ?_); rintro e w3 ⟨rfl, hw3⟩; obtain rfl := hw3.symm)
          | (go_at_call 60; go_must (refine (HRec.out _ (Keeps.refl _)).mono ?_); rw [HR.out]; rintro e w3 ⟨rfl, hb⟩; have HB2 := Lib.hid (HB.out.trans (hb.mono HB.out.size)); clear hb))
        go_ret
        exact InlRes.mk HV4.out.symm HB2.out
      | true =>
        cases vb with
        | false =>
          have HV4 := Lib.hid (HV3.out.trans (by first | rfl | simp : _ = r))
          rw [hq]
          clear hq
          go_enter Tryd.func40, Tryd.ntmps40
          go_wp2_with (first
            | (go_at_call_of 59 a.text; go_must (refine (blankEnds_r a.text _ _ _ HUa.out HVa.out hats).mono ?_); rintro e w3 ⟨rfl, hw3⟩; obtain rfl := hw3.symm)
            | (go_at_call_of 59 b.text; go_must (refine (blankEnds_r b.text _ _ _ HUb.out HVb.out hbts).mono ?_); rintro e w3 ⟨rfl, hw3⟩; obtain rfl := hw3.symm)
            | (go_at_call 60; go_must (refine (HRec.out _ (Keeps.refl _)).mono ?_); rw [HR.out]; rintro e w3 ⟨rfl, hb⟩; have HB2 := Lib.hid (HB.out.trans (hb.mono HB.out.size)); clear hb))
          go_ret
          exact InlRes.mk HV4.out.symm HB2.out
        | true =>
          have HV4 := Lib.hid (HV3.out.trans (by first | rfl | simp : _ = false))
          rw [hq]
          clear hq
          go_enter Tryd.func40, Tryd.ntmps40
          go_wp2_with (first
            | (go_at_call_of 59 a.text; go_must (refine (blankEnds_r a.text _ _ _ HUa.out HVa.out hats).mono ?_); rintro e w3 ⟨rfl, hw3⟩; obtain rfl := hw3.symm)
            | (go_at_call_of 59 b.text; go_must (refine (blankEnds_r b.text _ _ _ HUb.out HVb.out hbts).mono ?_); rintro e w3 ⟨rfl, hw3⟩; obtain rfl := hw3.symm))
          go_ret
          exact InlRes.mk HV4.out.symm HB.out
    | true =>
      cases ua with
      | false =>
        cases tb with
        | false =>
          have HV4 := Lib.hid (HV3.out.trans (by first | rfl | simp : _ = r))
          rw [hq]
          clear hq
          go_enter Tryd.func40, Tryd.ntmps40
          go_wp2_with (first
            | (go_at_call_of 59 a.text; go_must (refine (blankEnds_r a.text _ _ _ HUa.out HVa.out hats).mono ?_); rintro e w3 ⟨rfl, hw3⟩; obtain rfl := hw3.symm)
            | (go_at_call_of 59 b.text; go_must (refine (blankEnds_r b.text _ _ _ HUb.out HVb.out hbts).mono ?_); rintro e w3 ⟨rfl, hw3⟩; obtain rfl := hw3.symm)
            | (go_at_call 60; go_must (refine (HRec.out _ (Keeps.refl _)).mono ?_); rw [HR.out]; rintro e w3 ⟨rfl, hb⟩; have HB2 := Lib.hid (HB.out.trans (hb.mono HB.out.size)); clear hb))
          go_ret
          exact InlRes.mk HV4.out.symm HB2.out
        | true =>
          cases vb with
          | false =>
            have HV4 := Lib.hid (HV3.out.trans (by first | rfl | simp : _ = r))
            rw [hq]
            clear hq
            go_enter Tryd.func40, Tryd.ntmps40
            go_wp2_with (first
              | (go_at_call_of 59 a.text; go_must (refine (blankEnds_r a.text _ _ _ HUa.out HVa.out hats).mono ?_); rintro e w3 ⟨rfl, hw3⟩; obtain rfl := hw3.symm)
              | (go_at_call_of 59 b.text; go_must (refine (blankEnds_r b.text _ _ _ HUb.out HVb.out hbts).mono ?_); rintro e w3 ⟨rfl, hw3⟩; obtain rfl := hw3.symm)
              | (go_at_call 60; go_must (refine (HRec.out _ (Keeps.refl _)).mono ?_); rw [HR.out]; rintro e w3 ⟨rfl, hb⟩; have HB2 := Lib.hid (HB.out.trans (hb.mono HB.out.size)); clear hb))
            go_ret
            exact InlRes.mk HV4.out.symm HB2.out
          | true =>
            have HV4 := Lib.hid (HV3.out.trans (by first | rfl | simp : _ = false))
            rw [hq]
            clear hq
            go_enter Tryd.func40, Tryd.ntmps40
            go_wp2_with (first
              | (go_at_call_of 59 a.text; go_must (refine (blankEnds_r a.text _ _ _ HUa.out HVa.out hats).mono ?_); rintro e w3 ⟨rfl, hw3⟩; obtain rfl := hw3.symm)
              | (go_at_call_of 59 b.text; go_must (refine (blankEnds_r b.text _ _ _ HUb.out HVb.out hbts).mono ?_); rintro e w3 ⟨rfl, hw3⟩; obtain rfl := hw3.symm))
            go_ret
            exact InlRes.mk HV4.out.symm HB.out
      | true =>
        cases tb with
        | false =>
          have HV4 := Lib.hid (HV3.out.trans (by first | rfl | simp : _ = false))
          rw [hq]
          clear hq
          go_enter Tryd.func40, Tryd.ntmps40
          go_wp2_with (first
            | (go_at_call_of 59 a.text; go_must (refine (blankEnds_r a.text _ _ _ HUa.out HVa.out hats).mono ?_); rintro e w3 ⟨rfl, hw3⟩; obtain rfl := hw3.symm)
            | (go_at_call_of 59 b.text; go_must (refine (blankEnds_r b.text _ _ _ HUb.out HVb.out hbts).mono ?_); rintro e w3 ⟨rfl, hw3⟩; obtain rfl := hw3.symm))
          go_ret
          exact InlRes.mk HV4.out.symm HB.out
        | true =>
          have HV4 := Lib.hid (HV3.out.trans (by first | rfl | simp : _ = false))
          rw [hq]
          clear hq
          go_enter Tryd.func40, Tryd.ntmps40
          go_wp2_with (first
            | (go_at_call_of 59 a.text; go_must (refine (blankEnds_r a.text _ _ _ HUa.out HVa.out hats).mono ?_); rintro e w3 ⟨rfl, hw3⟩; obtain rfl := hw3.symm)
            | (go_at_call_of 59 b.text; go_must (refine (blankEnds_r b.text _ _ _ HUb.out HVb.out hbts).mono ?_); rintro e w3 ⟨rfl, hw3⟩; obtain rfl := hw3.symm))
          go_ret
          exact InlRes.mk HV4.out.symm HB.out

end Go.Proofs.YtlganccpgchmeaaDoor
