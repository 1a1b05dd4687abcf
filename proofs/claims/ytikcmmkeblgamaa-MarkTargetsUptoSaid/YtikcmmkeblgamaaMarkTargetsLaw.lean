/-
  MarkTargets is proved, in its second form: for all documents and targets whose reading stays below the given bound, Targets and Relink answer as the reference's TargetsOf and Relinked do, with DocError's error, ErrForm, or ErrByte.
-/
import Derived.Test.YtikcmmkeblgamaaRelinked
import Derived.Test.YtikcmmkeblgamaaSameDoc
import Derived.Test.YtikcmmkeblgamaaEqualStrs
import Derived.Test.YtikcmmkeblgamaaCheck3
import Derived.Test.YtikcmmkeblgamaaLaw
namespace Go.Proofs.Ytikcmmkeblgamaa
open Go.RowKit Go.ChangeShapes Go.WideShapes Go.ChangeAt Go.Deep

theorem strs_cells (ts : List ByteArray) : strs ts = strCells (ts.map fun s => s.data.toList) := by
  simp only [strs, strCells, List.map_map]
  congr 1

theorem equal_self (ts : List ByteArray) (v1 v2 : Value) (w : World) (h1 : OnesAt w v1 (strs ts)) (h2 : OnesAt w v2 (strs ts)) :
    Calls Try.prog 23 #[v1, v2] w fun e w' => e = .returned (.bool true) ∧ Below w.heap.size w w' := by
  rw [strs_cells] at h1 h2
  refine (equalStrs_any _ _ v1 v2 w h1 h2).mono fun e w' ⟨he, hb⟩ => ⟨?_, hb⟩
  rw [he]
  simp

/-- some string has a byte below 32 -/
def badStrs (ts : List ByteArray) : Bool := ts.any fun s => ctlP [] s.data.toList
theorem badStrs_at {ts : List ByteArray} {k : Nat} {s : ByteArray} (h : ts[k]? = some s) : badStrs (ts.drop k) = (ctlP [] s.data.toList || badStrs (ts.drop (k + 1))) := by
  obtain ⟨hk, rfl⟩ := List.getElem?_eq_some_iff.1 h
  rw [List.drop_eq_getElem_cons hk]
  rfl

/-- Relink's two results -/
def RelinkRes (l : List Node) (ts : List ByteArray) (w : World) (e : Ending) (w' : World) : Prop :=
  Below w.heap.size w w' ∧ ((docErr l ≠ 0 ∧ e = .returned (.tuple #[.slice none 0 0, .int .i64 (docErr l)])) ∨ (docErr l = 0 ∧ ts.length ≠ (targetsL l).length ∧ e = .returned (.tuple #[.slice none 0 0, .int .i64 1])) ∨
    (docErr l = 0 ∧ ts.length = (targetsL l).length ∧ badStrs ts = true ∧ e = .returned (.tuple #[.slice none 0 0, .int .i64 9])) ∨
    (docErr l = 0 ∧ ts.length = (targetsL l).length ∧ badStrs ts = false ∧ ∃ A c, e = .returned (.tuple #[.slice A l.length c, .int .i64 0]) ∧ NodesAt w' (.slice A l.length c) (relinkL l ts)))

theorem control_n (s : ByteArray) (v : Bool) (w : World) (hs : s.size ≤ maxLen) (h : ctlP [] s.data.toList = v) : Calls Try.prog 46 #[.string s, .string ⟨#[]⟩] w fun e w' => e = .returned (.bool v) ∧ w = w' := control_v s ⟨#[]⟩ v w hs h

set_option maxRecDepth 100000 in
set_option maxHeartbeats 2000000 in
theorem markRelink_any (l : List Node) (v : Value) (A : Option Addr) (m c : Nat) (ts : List ByteArray) (w : World) (h : NodesAt w v l) (ht : total l ≤ 1073741824) (hts : OnesAt w (.slice A m c) (strs ts)) (hss : ∀ s ∈ ts, s.size ≤ maxLen) :
    Calls Try.prog 21 #[v, .slice A m c] w (RelinkRes l ts w) := by
  have H := Lib.hid h; clear h
  have HSs := Lib.hid hss; clear hss
  have HTs := Lib.hid hts
  obtain ⟨hm, hmc, hcm⟩ := ones_len hts
  unfold maxLen at hcm
  obtain ⟨A', c', bt, ot, hv, _, _, hA, hcell⟩ := hts
  cases hv
  have HA := Lib.hid hA; clear hA
  have HCell := Lib.hid hcell; clear hcell
  rw [show (strs ts).length = ts.length by simp [strs]] at *
  by_cases h0 : docErr l = 0
  · have H0 := Lib.hid h0; clear h0
    have htl := targets_len l
    by_cases hne : ts.length = (targetsL l).length
    · have HNe := Lib.hid hne
      have g1 : ((ts.length : Int) != ((targetsL l).length : Int)) = false := by simp; omega
      clear hne
      go_enter Try.func21, Try.ntmps21
      go_wp2_with fail
      refine (check_any l v _ H.out ht).mono ?_
      rw [H0.out]
      rintro e w1 ⟨rfl, hb⟩
      have HB := Lib.hid hb; clear hb
      go_wp2_with fail
      refine (targets_any _ l v _ (Nat.le_refl _) (H.out.keep (Keeps.of_below HB.out)) ht).mono ?_
      rintro e w2 ⟨A2, c2, rfl, own2, hb⟩
      have HB2 := Lib.hid (HB.out.trans (hb.mono HB.out.size)); clear hb own2
      go_wp2_with fail
      clear g1
      go_loopw [23] (fun t wr => ∃ (k : Nat), k ≤ ts.length ∧ t = .int .i64 k ∧ EqW wr w2 ∧ Hid (badStrs (ts.drop k) = badStrs ts)) (fun t _ => ts.length - (intOf t).toNat)
      case atStart => exact ⟨0, Nat.zero_le _, rfl, EqW.refl _, rfl⟩
      case round =>
        obtain ⟨k, hk, rfl, hww, hr⟩ := hrel
        unfold EqW at hww
        subst hww
        by_cases hlt : k < ts.length
        · obtain ⟨s, hs⟩ : ∃ s, ts[k]? = some s := ⟨_, List.getElem?_eq_getElem hlt⟩
          have hA2 := HA.out (by intro e; rw [strs, List.map_eq_nil_iff] at e; subst e; simp at hlt)
          subst hA2
          have q0 := Keeps.of_below HB2.out _ _ (HCell.out k (.string s) (by simp [strs, hs]))
          have bb := World.block_lt_of_cell? _ _ q0
          simp only at bb
          have hsz := HSs.out s (List.mem_of_getElem? hs)
          have hr2 := hr.out
          rw [badStrs_at hs] at hr2
          clear hr hs
          cases hb : ctlP [] s.data.toList
          · have HR := Lib.hid (show badStrs (ts.drop (k + 1)) = badStrs ts by rw [← hr2, hb]; rfl)
            have HB5 := Lib.hid hb; clear hb hr2
            go_wp2_with fail
            refine (control_n s false _ hsz HB5.out).mono ?_
            rintro e w3 ⟨rfl, rfl⟩
            go_wp2_with fail
            go_roundw
            case rel => exact ⟨k + 1, by omega, by go_num, EqW.refl _, HR.out⟩
            case measure => simp [intOf]; omega
          · have HR := Lib.hid (show badStrs ts = true by rw [← hr2, hb]; rfl)
            have HB5 := Lib.hid hb; clear hb hr2
            go_wp2_with fail
            refine (control_n s true _ hsz HB5.out).mono ?_
            rintro e w3 ⟨rfl, rfl⟩
            go_wp2_with fail
            go_ret2
            exact ⟨HB2.out, Or.inr (Or.inr (Or.inl ⟨H0.out, HNe.out, HR.out, rfl⟩))⟩
        · have HR := Lib.hid (show badStrs ts = false by rw [← hr.out, List.drop_eq_nil_of_le (by omega)]; rfl)
          clear hr
          go_wp2_with fail
          refine (clone_any _ l v _ (Nat.le_refl _) (H.out.keep (Keeps.of_below HB2.out)) ht).mono ?_
          rintro e w3 ⟨u, rfl, hT, hb⟩
          obtain ⟨A5, c5, rfl⟩ := hT.slice
          have HT := Lib.hid hT; clear hT
          have HB3 := Lib.hid (HB2.out.trans (hb.mono HB2.out.size)); clear hb
          have HSz := Lib.hid HB2.out.size
          go_wp2_with fail
          refine (relink_any w _ l _ _ _ A ts.length c ts _ (Nat.le_refl _) HT.out ht HTs.out (by rw [HNe.out]; exact Nat.le_refl _) HSs.out HB3.out (fun x hx => Nat.le_trans HSz.out hx.1)).mono ?_
          rintro e w4 ⟨A7, m7, c7, rfl, _, hT4, hO⟩
          have HT4 := Lib.hid hT4; clear hT4
          have HB4 := Lib.hid (Only.below HB3.out hO (fun x hx => Nat.le_trans HSz.out hx.1)); clear hO
          go_wp2_with fail
          go_ret2
          exact ⟨HB4.out, Or.inr (Or.inr (Or.inr ⟨H0.out, HNe.out, HR.out, A5, c5, rfl, HT4.out.nodes⟩))⟩
    · have HNe := Lib.hid hne
      have g1 : ((ts.length : Int) != ((targetsL l).length : Int)) = true := by simp; omega
      clear hne
      go_enter Try.func21, Try.ntmps21
      go_wp2_with fail
      refine (check_any l v _ H.out ht).mono ?_
      rw [H0.out]
      rintro e w1 ⟨rfl, hb⟩
      have HB := Lib.hid hb; clear hb
      go_wp2_with fail
      refine (targets_any _ l v _ (Nat.le_refl _) (H.out.keep (Keeps.of_below HB.out)) ht).mono ?_
      rintro e w2 ⟨A2, c2, rfl, own2, hb⟩
      have HB2 := Lib.hid (HB.out.trans (hb.mono HB.out.size)); clear hb own2
      go_wp2_with fail
      go_ret2
      exact ⟨HB2.out, Or.inr (Or.inl ⟨H0.out, HNe.out, rfl⟩)⟩
  · have g1 : (docErr l != 0) = true := by simp [h0]
    have H0 := Lib.hid h0; clear h0
    go_enter Try.func21, Try.ntmps21
    go_wp2_with fail
    refine (check_any l v _ H.out ht).mono ?_
    rintro e w1 ⟨rfl, hb⟩
    have HB := Lib.hid hb; clear hb
    go_wp2_with fail
    go_ret2
    exact ⟨HB.out, Or.inl ⟨H0.out, rfl⟩⟩

/-- Targets' two results -/
def TargetsRes (l : List Node) (w : World) (e : Ending) (w' : World) : Prop :=
  Below w.heap.size w w' ∧ ((docErr l ≠ 0 ∧ e = .returned (.tuple #[.slice none 0 0, .int .i64 (docErr l)])) ∨ (docErr l = 0 ∧ ∃ A c, e = .returned (.tuple #[.slice A (targetsL l).length c, .int .i64 0]) ∧ OnesAt w' (.slice A (targetsL l).length c) (strs (targetsL l))))

set_option maxHeartbeats 1000000 in
theorem markTargets_any (l : List Node) (v : Value) (w : World) (h : NodesAt w v l) (ht : total l ≤ 1073741824) : Calls Try.prog 20 #[v] w (TargetsRes l w) := by
  have H := Lib.hid h; clear h
  by_cases h0 : docErr l = 0
  · have H0 := Lib.hid h0; clear h0
    go_enter Try.func20, Try.ntmps20
    go_wp2_with fail
    refine (check_any l v _ H.out ht).mono ?_
    rw [H0.out]
    rintro e w1 ⟨rfl, hb⟩
    have HB := Lib.hid hb; clear hb
    go_wp2_with fail
    refine (targets_any _ l v _ (Nat.le_refl _) (H.out.keep (Keeps.of_below HB.out)) ht).mono ?_
    rintro e w2 ⟨A2, c2, rfl, own2, hb⟩
    have HO := Lib.hid (OnesAt.of_own own2); clear own2
    have HB2 := Lib.hid (HB.out.trans (hb.mono HB.out.size)); clear hb
    go_wp2_with fail
    go_ret2
    exact ⟨HB2.out, Or.inr ⟨H0.out, A2, c2, rfl, HO.out⟩⟩
  · have g1 : (docErr l != 0) = true := by simp [h0]
    have H0 := Lib.hid h0; clear h0
    go_enter Try.func20, Try.ntmps20
    go_wp2_with fail
    refine (check_any l v _ H.out ht).mono ?_
    rintro e w1 ⟨rfl, hb⟩
    have HB := Lib.hid hb; clear hb
    go_wp2_with fail
    go_ret2
    exact ⟨HB.out, Or.inl ⟨H0.out, rfl⟩⟩

set_option maxRecDepth 100000 in
set_option maxHeartbeats 4000000 in
theorem markTargets_walk (l : List Node) (v : Value) (A : Option Addr) (m c : Nat) (ts : List ByteArray) (w : World) (h : NodesAt w v l) (ht : total l ≤ 1073741824) (hts : OnesAt w (.slice A m c) (strs ts)) (hss : ∀ s ∈ ts, s.size ≤ maxLen) :
    Calls Try.prog 7 #[v, .slice A m c] w fun e w' => e = .returned (.bool true) ∧ Below w.heap.size w w' := by
  have H := Lib.hid h; clear h
  have HSs := Lib.hid hss; clear hss
  have HTs := Lib.hid hts
  obtain ⟨hm, hmc, hcm⟩ := ones_len hts
  unfold maxLen at hcm
  obtain ⟨A', c', bt, ot, hv, _, _, hA, hcell⟩ := hts
  cases hv
  have HA := Lib.hid hA; clear hA
  have HCell := Lib.hid hcell; clear hcell
  rw [show (strs ts).length = ts.length by simp [strs]] at *
  have htl := targets_len l
  go_enter Try.func7, Try.ntmps7
  go_wp2_with fail
  refine (markTargets_any l v _ H.out ht).mono ?_
  rintro e w1 ⟨hb, ⟨h0, rfl⟩ | ⟨h0, A1, c1, rfl, hO⟩⟩
  · have g1 : (docErr l != 0) = true := by simp [h0]
    have g2 : (docErr l == docErr l) = true := by simp
    have H0 := Lib.hid h0; clear h0
    have HB := Lib.hid hb; clear hb
    go_wp2_with fail
    refine (markRelink_any l v A ts.length c ts _ (H.out.keep (Keeps.of_below HB.out)) ht (HTs.out.keep (Keeps.of_below HB.out)) HSs.out).mono ?_
    rintro e w2 ⟨hb, ⟨_, rfl⟩ | ⟨hn, _⟩ | ⟨hn, _⟩ | ⟨hn, _⟩⟩
    rotate_left
    · exact absurd hn H0.out
    · exact absurd hn H0.out
    · exact absurd hn H0.out
    have HB2 := Lib.hid (HB.out.trans (hb.mono HB.out.size)); clear hb
    go_wp2_with fail
    refine (docError_any l v _ (H.out.keep (Keeps.of_below HB2.out)) ht).mono ?_
    rintro e w3 ⟨rfl, hb⟩
    have HB3 := Lib.hid (HB2.out.trans (hb.mono HB2.out.size)); clear hb
    go_wp2_with fail
    go_ret
    exact ⟨rfl, HB3.out⟩
  · have H0 := Lib.hid h0; clear h0
    have HO := Lib.hid hO; clear hO
    have HB := Lib.hid hb; clear hb
    go_wp2_with fail
    refine (markRelink_any l v A ts.length c ts _ (H.out.keep (Keeps.of_below HB.out)) ht (HTs.out.keep (Keeps.of_below HB.out)) HSs.out).mono ?_
    rintro e w2 ⟨hb, ⟨hn, _⟩ | ⟨_, hne, rfl⟩ | ⟨_, hne, hbad, rfl⟩ | ⟨_, hne, hbad, A5, c5, rfl, hT⟩⟩
    · exact absurd H0.out hn
    · have HB2 := Lib.hid (HB.out.trans (hb.mono HB.out.size))
      have HO2 := Lib.hid (HO.out.keep (Keeps.of_below hb)); clear hb
      have g1 : ((ts.length : Int) != ((targetsL l).length : Int)) = true := by simp; omega
      clear hne
      go_wp2_with fail
      refine (docError_any l v _ (H.out.keep (Keeps.of_below HB2.out)) ht).mono ?_
      rw [H0.out]
      rintro e w3 ⟨rfl, hb⟩
      have HB3 := Lib.hid (HB2.out.trans (hb.mono HB2.out.size))
      have HO3 := Lib.hid (HO2.out.keep (Keeps.of_below hb))
      clear hb
      go_wp2_with fail
      refine (targetsOf_any _ l v _ (Nat.le_refl _) (H.out.keep (Keeps.of_below HB3.out)) ht).mono ?_
      rintro e w4 ⟨A4, c4, rfl, own4, hb⟩
      have HB4 := Lib.hid (HB3.out.trans (hb.mono HB3.out.size))
      have HO4 := Lib.hid (HO3.out.keep (Keeps.of_below hb))
      clear hb
      have HOb := Lib.hid (OnesAt.of_own own4); clear own4
      go_wp2_with fail
      refine (equal_self (targetsL l) _ _ _ HO4.out HOb.out).mono ?_
      rintro e w5 ⟨rfl, hb⟩
      have HB5 := Lib.hid (HB4.out.trans (hb.mono HB4.out.size))
      clear hb
      go_wp2_with fail
      go_ret
      exact ⟨rfl, HB5.out⟩
    · have HB2 := Lib.hid (HB.out.trans (hb.mono HB.out.size))
      have HO2 := Lib.hid (HO.out.keep (Keeps.of_below hb)); clear hb
      have g1 : ((ts.length : Int) != ((targetsL l).length : Int)) = false := by simp; omega
      have HBd := Lib.hid hbad
      clear hne hbad
      go_wp2_with fail
      refine (docError_any l v _ (H.out.keep (Keeps.of_below HB2.out)) ht).mono ?_
      rw [H0.out]
      rintro e w3 ⟨rfl, hb⟩
      have HB3 := Lib.hid (HB2.out.trans (hb.mono HB2.out.size))
      have HO3 := Lib.hid (HO2.out.keep (Keeps.of_below hb))
      clear hb
      go_wp2_with fail
      refine (targetsOf_any _ l v _ (Nat.le_refl _) (H.out.keep (Keeps.of_below HB3.out)) ht).mono ?_
      rintro e w4 ⟨A4, c4, rfl, own4, hb⟩
      have HB4 := Lib.hid (HB3.out.trans (hb.mono HB3.out.size))
      have HO4 := Lib.hid (HO3.out.keep (Keeps.of_below hb))
      clear hb
      have HOb := Lib.hid (OnesAt.of_own own4); clear own4
      go_wp2_with fail
      refine (equal_self (targetsL l) _ _ _ HO4.out HOb.out).mono ?_
      rintro e w5 ⟨rfl, hb⟩
      have HB5 := Lib.hid (HB4.out.trans (hb.mono HB4.out.size))
      clear hb
      go_wp2_with fail
      clear g1
      go_loopw [73] (fun t wr => ∃ (k : Nat), k ≤ ts.length ∧ t = .int .i64 k ∧ EqW wr w5 ∧ Hid (badStrs (ts.drop k) = badStrs ts)) (fun t _ => ts.length - (intOf t).toNat)
      case atStart => exact ⟨0, Nat.zero_le _, rfl, EqW.refl _, rfl⟩
      case round =>
        obtain ⟨k, hk, rfl, hww, hr⟩ := hrel
        unfold EqW at hww
        subst hww
        by_cases hlt : k < ts.length
        · obtain ⟨s, hs⟩ : ∃ s, ts[k]? = some s := ⟨_, List.getElem?_eq_getElem hlt⟩
          have hA2 := HA.out (by intro e; rw [strs, List.map_eq_nil_iff] at e; subst e; simp at hlt)
          subst hA2
          have q0 := Keeps.of_below HB5.out _ _ (HCell.out k (.string s) (by simp [strs, hs]))
          have bb := World.block_lt_of_cell? _ _ q0
          simp only at bb
          have hsz := HSs.out s (List.mem_of_getElem? hs)
          unfold maxLen at hsz
          have hr2 := hr.out
          rw [badStrs_at hs] at hr2
          have HR2 := Lib.hid hr2; clear hr hs hr2
          obtain ⟨wo, rfl⟩ : ∃ wo : World, wo = wr := ⟨_, rfl⟩
          go_wp2_with fail
          go_loopw [13] (fun t w8 => ∃ (i : Nat), i ≤ s.size ∧ t = .int .i64 i ∧ EqW w8 wo ∧ Hid (ctlP [] (s.data.toList.drop i) = ctlP [] s.data.toList)) (fun t _ => s.size - (intOf t).toNat)
          case atStart => exact ⟨0, Nat.zero_le _, rfl, EqW.refl _, rfl⟩
          case round =>
            obtain ⟨i, hi, rfl, hw8, hc8⟩ := hrel
            unfold EqW at hw8
            subst hw8
            by_cases hlt2 : i < s.size
            · have hc9 := hc8.out
              rw [ctlP_at (byteAt' hlt2)] at hc9
              clear hc8
              by_cases h32 : (s[i].toNat : Int) < 32
              · have HBad := Lib.hid (show badStrs ts = true by rw [← HR2.out, ← hc9]; simp [inB]; left; left; omega)
                clear hc9
                go_wp2_with fail
                go_ret
                exact ⟨rfl, HB5.out⟩
              · have HC := Lib.hid (show ctlP [] (s.data.toList.drop (i + 1)) = ctlP [] s.data.toList by rw [← hc9]; simp; omega)
                clear hc9
                go_wp2_with fail
                go_roundw
                case rel => exact ⟨i + 1, by omega, by go_num, EqW.refl _, HC.out⟩
                case measure => simp [intOf]; omega
            · have HC := Lib.hid (show ctlP [] s.data.toList = false by rw [← hc8.out, List.drop_eq_nil_of_le (by rw [size_toList]; omega)]; rfl)
              have HR3 := Lib.hid (show badStrs (ts.drop (k + 1)) = badStrs ts by rw [← HR2.out, HC.out]; rfl)
              clear hc8
              go_wp2_with fail
              go_roundw
              case rel => exact ⟨k + 1, by omega, by go_num, EqW.refl _, HR3.out⟩
              case measure => simp [intOf]; omega
        · have HR := Lib.hid (show badStrs ts = false by rw [← hr.out, List.drop_eq_nil_of_le (by omega)]; rfl)
          clear hr
          exfalso
          have h1 := HR.out
          rw [HBd.out] at h1
          cases h1
    · have HB2 := Lib.hid (HB.out.trans (hb.mono HB.out.size))
      have HO2 := Lib.hid (HO.out.keep (Keeps.of_below hb)); clear hb
      have g1 : ((ts.length : Int) != ((targetsL l).length : Int)) = false := by simp; omega
      have HBd := Lib.hid hbad
      have HNe := Lib.hid hne
      have HT := Lib.hid hT
      clear hne hbad hT
      go_wp2_with fail
      refine (docError_any l v _ (H.out.keep (Keeps.of_below HB2.out)) ht).mono ?_
      rw [H0.out]
      rintro e w3 ⟨rfl, hb⟩
      have HB3 := Lib.hid (HB2.out.trans (hb.mono HB2.out.size))
      have HO3 := Lib.hid (HO2.out.keep (Keeps.of_below hb))
      have HT3 := Lib.hid (HT.out.keep (Keeps.of_below hb))
      clear hb
      go_wp2_with fail
      refine (targetsOf_any _ l v _ (Nat.le_refl _) (H.out.keep (Keeps.of_below HB3.out)) ht).mono ?_
      rintro e w4 ⟨A4, c4, rfl, own4, hb⟩
      have HB4 := Lib.hid (HB3.out.trans (hb.mono HB3.out.size))
      have HO4 := Lib.hid (HO3.out.keep (Keeps.of_below hb))
      have HT4 := Lib.hid (HT3.out.keep (Keeps.of_below hb))
      clear hb
      have HOb := Lib.hid (OnesAt.of_own own4); clear own4
      go_wp2_with fail
      refine (equal_self (targetsL l) _ _ _ HO4.out HOb.out).mono ?_
      rintro e w5 ⟨rfl, hb⟩
      have HB5 := Lib.hid (HB4.out.trans (hb.mono HB4.out.size))
      have HT5 := Lib.hid (HT4.out.keep (Keeps.of_below hb))
      clear hb
      go_wp2_with fail
      clear g1
      go_loopw [73] (fun t wr => ∃ (k : Nat), k ≤ ts.length ∧ t = .int .i64 k ∧ EqW wr w5 ∧ Hid (badStrs (ts.drop k) = badStrs ts)) (fun t _ => ts.length - (intOf t).toNat)
      case atStart => exact ⟨0, Nat.zero_le _, rfl, EqW.refl _, rfl⟩
      case round =>
        obtain ⟨k, hk, rfl, hww, hr⟩ := hrel
        unfold EqW at hww
        subst hww
        by_cases hlt : k < ts.length
        · obtain ⟨s, hs⟩ : ∃ s, ts[k]? = some s := ⟨_, List.getElem?_eq_getElem hlt⟩
          have hA2 := HA.out (by intro e; rw [strs, List.map_eq_nil_iff] at e; subst e; simp at hlt)
          subst hA2
          have q0 := Keeps.of_below HB5.out _ _ (HCell.out k (.string s) (by simp [strs, hs]))
          have bb := World.block_lt_of_cell? _ _ q0
          simp only at bb
          have hsz := HSs.out s (List.mem_of_getElem? hs)
          unfold maxLen at hsz
          have hr2 := hr.out
          rw [badStrs_at hs] at hr2
          have HR2 := Lib.hid hr2; clear hr hs hr2
          obtain ⟨wo, rfl⟩ : ∃ wo : World, wo = wr := ⟨_, rfl⟩
          go_wp2_with fail
          go_loopw [13] (fun t w8 => ∃ (i : Nat), i ≤ s.size ∧ t = .int .i64 i ∧ EqW w8 wo ∧ Hid (ctlP [] (s.data.toList.drop i) = ctlP [] s.data.toList)) (fun t _ => s.size - (intOf t).toNat)
          case atStart => exact ⟨0, Nat.zero_le _, rfl, EqW.refl _, rfl⟩
          case round =>
            obtain ⟨i, hi, rfl, hw8, hc8⟩ := hrel
            unfold EqW at hw8
            subst hw8
            by_cases hlt2 : i < s.size
            · have hc9 := hc8.out
              rw [ctlP_at (byteAt' hlt2)] at hc9
              clear hc8
              by_cases h32 : (s[i].toNat : Int) < 32
              · have HBad := Lib.hid (show badStrs ts = true by rw [← HR2.out, ← hc9]; simp [inB]; left; left; omega)
                clear hc9
                exfalso
                have h1 := HBad.out
                rw [HBd.out] at h1
                cases h1
              · have HC := Lib.hid (show ctlP [] (s.data.toList.drop (i + 1)) = ctlP [] s.data.toList by rw [← hc9]; simp; omega)
                clear hc9
                go_wp2_with fail
                go_roundw
                case rel => exact ⟨i + 1, by omega, by go_num, EqW.refl _, HC.out⟩
                case measure => simp [intOf]; omega
            · have HC := Lib.hid (show ctlP [] s.data.toList = false by rw [← hc8.out, List.drop_eq_nil_of_le (by rw [size_toList]; omega)]; rfl)
              have HR3 := Lib.hid (show badStrs (ts.drop (k + 1)) = badStrs ts by rw [← HR2.out, HC.out]; rfl)
              clear hc8
              go_wp2_with fail
              go_roundw
              case rel => exact ⟨k + 1, by omega, by go_num, EqW.refl _, HR3.out⟩
              case measure => simp [intOf]; omega
        · have HR := Lib.hid (show badStrs ts = false by rw [← hr.out, List.drop_eq_nil_of_le (by omega)]; rfl)
          clear hr
          go_wp2_with fail
          refine (relinked_any w _ l v A ts.length c ts _ (Nat.le_refl _) (H.out.keep (Keeps.of_below HB5.out)) ht HTs.out (by rw [HNe.out]; exact Nat.le_refl _) HSs.out HB5.out).mono ?_
          rintro e w6 ⟨u, A6, m6, c6, rfl, hT6, hb, _⟩
          have HB6 := Lib.hid (HB5.out.trans (hb.mono HB5.out.size))
          have HTa := Lib.hid (HT5.out.keep (Keeps.of_below hb)); clear hb
          have HTb := Lib.hid hT6.nodes; clear hT6
          go_wp2_with fail
          refine (sameDoc_any _ (relinkL l ts) (relinkL l ts) _ _ _ (Nat.le_refl _) HTa.out HTb.out).mono ?_
          rw [same_refl]
          rintro e w7 ⟨rfl, hb⟩
          have HB7 := Lib.hid (HB6.out.trans (hb.mono HB6.out.size)); clear hb
          go_wp2_with fail
          go_ret
          exact ⟨rfl, HB7.out⟩

theorem cells_str : Try.prog.cellsOf 9 = 1 := by kernel_rfl

theorem open_strs {H : Type} {enc : TypeId × Value → H} {w : World} {base : Nat} {spare : Nat → Bool} {held : Bool} (fuel : Nat) (cs : List Value) (x : DataW H × List MemPlace) (h : DataW.trod enc Try.prog w base spare held fuel 47 cs = some x) :
    ∃ (v : Value) (ts : List ByteArray), cs = [v] ∧ OnesAt w v (strs ts) ∧ (∀ s ∈ ts, s.size ≤ maxLen) := by
  obtain ⟨A, len, cap, m, b, o, hm, rfl, hlc, hc, hA, hD, hel⟩ := open_cells Try.underlying47 cells_str (by omega) h
  have key : ∀ i, i < len → ∃ s : ByteArray, w.cell? ⟨b, o + i, none⟩ = some (.string s) ∧ s.size ≤ maxLen := by
    intro i hi
    obtain ⟨cs', y, hl', hat, hdi, hy⟩ := hel i hi
    obtain ⟨s, e0, z0, w0⟩ := DataW.trod_string Try.underlying9 hy
    subst e0
    exact ⟨s, by have := hat 0 (by omega); simpa using this, w0⟩
  obtain ⟨l, hll, hp⟩ := exists_list key
  refine ⟨_, l, rfl, ⟨A, cap, b, o, by simp [strs, hll], by simp [strs, hll]; exact hlc, hc, fun hne => hA (by
    rcases Nat.eq_zero_or_pos len with h0 | h0
    · exact absurd (by rw [strs, List.map_eq_nil_iff]; exact List.eq_nil_of_length_eq_zero (by omega)) hne
    · exact h0), fun i y hi => ?_⟩, fun s hs => ?_⟩
  · rw [strs, List.getElem?_map, Option.map_eq_some_iff] at hi
    obtain ⟨s, h1, rfl⟩ := hi
    exact (hp i s h1).1
  · obtain ⟨i, hi⟩ := List.getElem?_of_mem hs
    exact (hp i s hi).2

set_option maxRecDepth 100000 in
theorem markTargets_calls (H : Type) (enc : TypeId × Value → H) (W : World) (base : Nat) (args : Array Value) (ds gs : List (DataW H)) (before : List MemPlace)
    (hval : ∀ (j : Nat) t v, Try.f7.params[j]? = some t → args[j]? = some v → Value.okWide Try.prog W .any base t v)
    (hW : DataW.Whole enc Try.prog Try.f7.params.toList Rows.markTargetsSpec.vars false W args.toList ds gs before) (hk : Rows.uptoSmall H (ds ++ gs) = true) :
    Calls Try.prog 7 args W fun e W' => ∃ v, e = .returned v ∧ Rows.markTargetsSpec.post enc Try.prog Try.f7 false true false false W args v W' := by
  have hW' := hW
  obtain ⟨p, q, hA0, hV, rfl, hfz, hnd⟩ := hW
  have hA : DataW.TrodAll enc Try.prog W 0 (fun _ => true) true Try.f7.params.toList args.toList ds p := hA0
  rw [Try.params7] at hA hval
  obtain ⟨v0, v1, d0, d1, p0, p1, rfl, rfl, rfl, h0, h1⟩ := trodAll_two hA
  obtain ⟨rfl, rfl⟩ := trodVars_none hV
  have hbulk : Rows.uptoBulkAll ([d0, d1]) ≤ 1048576 := of_decide_eq_true (by simpa [Rows.uptoSmall] using hk)
  obtain ⟨fu0, g0⟩ := h0
  obtain ⟨u0, l0, e0, n0, w0⟩ := open_nodes _ _ _ g0
  obtain ⟨a0, len0, cap0, rfl⟩ := okWide_slice Try.underlying31 (hval 0 31 v0 rfl rfl)
  simp only [Value.cells, List.cons.injEq, and_true] at e0
  subst e0
  obtain ⟨fu1, g1⟩ := h1
  obtain ⟨u1, l1, e1, n1, w1⟩ := open_strs _ _ _ g1
  obtain ⟨a1, len1, cap1, rfl⟩ := okWide_slice Try.underlying47 (hval 1 47 v1 rfl rfl)
  simp only [Value.cells, List.cons.injEq, and_true] at e1
  subst e1
  refine (markTargets_walk l0 _ a1 len1 cap1 l1 W n0 (by have := total_weight _ l0 (Nat.le_refl _); have := bulk_mem (show d0 ∈ [d0, d1] by simp); have : weight l0 + 1 ≤ Rows.uptoBulk d0 := w0; omega) n1 w1).mono fun e W' ⟨he, hb⟩ => ?_
  subst he
  refine ⟨_, rfl, law_post rfl rfl (tb := 4) (by kernel_rfl) Try.underlying4 ?_ hW' hb⟩
  rw [Try.params7]
  intro t ht
  simp only [List.mem_cons, List.not_mem_nil, or_false] at ht
  rcases ht with rfl | rfl
  · exact ⟨by kernel_rfl, of_decide_eq_true (by kernel_rfl)⟩
  · exact ⟨by kernel_rfl, of_decide_eq_true (by kernel_rfl)⟩

set_option maxRecDepth 100000 in
theorem markTargets_lifted (os : Os) (started : os.Started) (H : Type) (enc : TypeId × Value → H) (F : Stop.Interp) :
    ReturnsInHanded {} Try.checked os 7 .any ((Rows.OpenSpec.upto Rows.markTargetsSpec).pre6 enc Try.prog Try.f7 Rows.markTargetsUptoRow.domain false) (((Rows.OpenSpec.upto Rows.markTargetsSpec).at F).post enc Try.prog Try.f7 false true false false) := by
  refine returnsInHanded_of_cond (C := Try.checked) (s := Rows.OpenSpec.upto Rows.markTargetsSpec) (k := Rows.uptoSmall) rfl own started (by kernel_rfl) Try.func7
    (OpenSpec.witness (enc := enc) (C := Try.checked) (s := Rows.OpenSpec.upto Rows.markTargetsSpec) (k := Rows.uptoSmall) rfl false ⟨#[], #[.slice none 0 0, .slice none 0 0], []⟩ 8 (by kernel_rfl) (by kernel_rfl) (by kernel_rfl)
      (x := ([.nil, .nil], [], [])) (by kernel_rfl) rfl (by kernel_rfl)) ?_
  intro W base args ds gs before hval hW _ hk _
  exact markTargets_calls H enc W base args ds gs before hval hW hk

theorem markTargets_holds : Rows.MarkTargetsUptoSaid :=
  OpenClaim.holds_of_cond 7 Try.f7 rfl rfl rfl rfl rfl rfl rfl ⟨rfl, rfl, rfl, rfl, rfl⟩ rfl rfl rfl rfl rfl (by kernel_rfl) Try.func7 (by kernel_rfl)
    (of_decide_eq_true (by kernel_rfl)) (by unfold Func.isWrapper; first | (rw [if_pos (by decide +kernel)]; kernel_rfl) | (rw [if_neg (by decide +kernel)]; exact ⟨rfl, rfl⟩))
    (fun os started H enc _ F => markTargets_lifted os started H enc F)
