/-
  ShipPlans is proved: for all pairs of sites Plan returns the steps that the reference returns, or has its error. No condition.
-/
import Derived.Test.YtbhildmalcfhiaaGreatDoorPlTos
import Derived.Test.YtbhildmalcfhiaaGreatDoorLkTop
import Derived.BigQuiet
import Derived.Deep.QuietTactic
import Derived.Test.YtbhildmalcfhiaaGreatDoorPlPlan
import Derived.Test.YtbhildmalcfhiaaGreatDoorBase
import Derived.JoinedCond
import Derived.HandedShaped
import Derived.Test.YtbhildmalcfhiaaGreatDoorCards
import Derived.Test.YtbhildmalcfhiaaGreatDoorTie
import Derived.OpenShut
import Derived.Deep.DeepHandedRow
import Derived.Lib.LaidTab
import Derived.Lay
namespace Go.Proofs.YtbhildmalcfhiaaGreatDoor
open Go.RowKit Go.Deep

def PlanErr (n : Int) (w : World) (e : Ending) (w' : World) : Prop := e = .returned (.tuple #[.slice none 0 0, .int .i64 n]) ∧ Below w.heap.size w w'

set_option maxRecDepth 100000 in
set_option maxHeartbeats 8000000 in
theorem plan_err (a b : List OutV) (va vb : Value) (n : Int) (w : World) (h : OutsAt w va a) (h2 : OutsAt w vb b) (hm : MaxT w.heap.size w) (hn : planE a b = n) (h0 : ¬ n = 0) :
    Calls Tryz.prog 16 #[va, vb] w (PlanErr n w) := by
  have z1 : (n == 0) = false := beq_eq_false_iff_ne.2 h0
  have z2 : (n != 0) = true := by rw [bne, z1]; rfl
  have HA := Lib.hid h; have HB := Lib.hid h2; have HM := Lib.hid hm
  obtain ⟨K, hK⟩ : ∃ K, w.heap.size = K := ⟨_, rfl⟩
  have HK := Lib.hid hK
  have HG := Lib.hid (Below.refl K w)
  have hKw0 : K ≤ w.heap.size := by omega
  have HKa := Lib.hid (show ∀ wr, Below K w wr → OutsAt wr va a from fun wr hb => by rw [← hK] at hb; exact HA.out.keep (Keeps.of_below hb))
  have HKb := Lib.hid (show ∀ wr, Below K w wr → OutsAt wr vb b from fun wr hb => by rw [← hK] at hb; exact HB.out.keep (Keeps.of_below hb))
  have HKm := Lib.hid (show ∀ wr, Below K w wr → MaxT wr.heap.size wr ∧ MaxAt wr from fun wr hb => by rw [← hK] at hb; exact ⟨(HM.out.keep hb).up hb.size, HM.out.at_.keep (Keeps.of_below hb)⟩)
  clear h h2 hm hK
  by_cases ha : outsE a = 0
  · have HEa := Lib.hid ha
    by_cases hb : outsE b = 0
    · have HEb := Lib.hid hb
      have HAp := Lib.hid (outs_apart hb)
      have HZa := Lib.hid (fun x hx => path_size (outs_paths ha x hx))
      have HZb := Lib.hid (fun x hx => path_size (outs_paths hb x hx))
      by_cases hp : pagesE b = 0
      · have HPg := Lib.hid hp
        have HEs := Lib.hid (show sitesE a b = n by rw [← hn, planE_s ha hb hp])
        clear hn ha hb hp
        go_enter Tryz.func16, Tryz.ntmps16
        go_upto_region 4 with (go_at_call 24; go_loud (refine (checkOuts_q a _ 0 _ (HKa.out _ HG.out) (HKm.out _ HG.out).2 HEa.out).mono ?_; rintro e w1 ⟨rfl, hb⟩; replace HG := Lib.hid (HG.out.trans (hb.mono hKw0)); have hKw1 : K ≤ w1.heap.size := Nat.le_trans hKw0 hb.size; clear hb))
        go_upto_region 7 with (go_at_call 24; go_loud (refine (checkOuts_q b _ 0 _ (HKb.out _ HG.out) (HKm.out _ HG.out).2 HEb.out).mono ?_; rintro e w2 ⟨rfl, hb⟩; replace HG := Lib.hid (HG.out.trans (hb.mono hKw1)); have hKw2 : K ≤ w2.heap.size := Nat.le_trans hKw1 hb.size; clear hb))
        go_upto_region 10 with (go_at_call 25; go_loud (refine (pages_q b _ _ (HKb.out _ HG.out) (HKm.out _ HG.out).1 (fun x hx => by have := HZb.out x hx; omega) HAp.out).mono ?_; rintro e w3 hp2; obtain ⟨mp, Fp, rfl, hmp, hP2, hb⟩ := hp2.ok HPg.out; replace HG := Lib.hid (HG.out.trans (hb.mono hKw2)); have hKw3 : K ≤ w3.heap.size := Nat.le_trans hKw2 hb.size; clear hb hP2 hp2 hmp))
        go_wp2_with (go_at_call 36; go_loud (refine (sitesFault_q a b _ _ n _ (HKa.out _ HG.out) (HKb.out _ HG.out) HEa.out HEb.out HZa.out HZb.out HEs.out).mono ?_; rintro e w4 ⟨rfl, hb⟩; replace HG := Lib.hid (HG.out.trans (hb.mono hKw3)); clear hb))
        go_ret2
        exact ⟨rfl, by rw [HK.out]; exact HG.out⟩
      · have HE4 := Lib.hid (show pagesE b = n by rw [← hn, planE_p ha hb hp])
        clear hn ha hb hp
        go_enter Tryz.func16, Tryz.ntmps16
        go_upto_region 4 with (go_at_call 24; go_loud (refine (checkOuts_q a _ 0 _ (HKa.out _ HG.out) (HKm.out _ HG.out).2 HEa.out).mono ?_; rintro e w1 ⟨rfl, hb⟩; replace HG := Lib.hid (HG.out.trans (hb.mono hKw0)); have hKw1 : K ≤ w1.heap.size := Nat.le_trans hKw0 hb.size; clear hb))
        go_upto_region 7 with (go_at_call 24; go_loud (refine (checkOuts_q b _ 0 _ (HKb.out _ HG.out) (HKm.out _ HG.out).2 HEb.out).mono ?_; rintro e w2 ⟨rfl, hb⟩; replace HG := Lib.hid (HG.out.trans (hb.mono hKw1)); have hKw2 : K ≤ w2.heap.size := Nat.le_trans hKw1 hb.size; clear hb))
        go_wp2_with (go_at_call 25; go_loud (refine (pages_q b _ _ (HKb.out _ HG.out) (HKm.out _ HG.out).1 (fun x hx => by have := HZb.out x hx; omega) HAp.out).mono ?_; rintro e w3 hp2; have hp4 : n = 4 := (by rcases hp2.2 with h9 | h9; exact absurd (HE4.out.symm.trans h9.1) h0; exact HE4.out.symm.trans h9.1); obtain ⟨rfl, hb⟩ := hp2.bad (HE4.out.trans hp4); replace HG := Lib.hid (HG.out.trans (hb.mono hKw2)); have HN4 := Lib.hid hp4; clear hb hp2 hp4))
        go_ret2
        exact ⟨by rw [HN4.out]; rfl, by rw [HK.out]; exact HG.out⟩
    · have HEb := Lib.hid (show outsE b = n by rw [← hn, planE_b ha hb])
      clear hn ha hb
      go_enter Tryz.func16, Tryz.ntmps16
      go_upto_region 4 with (go_at_call 24; go_loud (refine (checkOuts_q a _ 0 _ (HKa.out _ HG.out) (HKm.out _ HG.out).2 HEa.out).mono ?_; rintro e w1 ⟨rfl, hb⟩; replace HG := Lib.hid (HG.out.trans (hb.mono hKw0)); have hKw1 : K ≤ w1.heap.size := Nat.le_trans hKw0 hb.size; clear hb))
      go_wp2_with (go_at_call 24; go_loud (refine (checkOuts_q b _ n _ (HKb.out _ HG.out) (HKm.out _ HG.out).2 HEb.out).mono ?_; rintro e w2 ⟨rfl, hb⟩; replace HG := Lib.hid (HG.out.trans (hb.mono hKw1)); have hKw2 : K ≤ w2.heap.size := Nat.le_trans hKw1 hb.size; clear hb))
      go_ret2
      exact ⟨rfl, by rw [HK.out]; exact HG.out⟩
  · have HEa := Lib.hid (show outsE a = n by rw [← hn, planE_a ha])
    clear hn ha
    go_enter Tryz.func16, Tryz.ntmps16
    go_wp2_with (go_at_call 24; go_loud (refine (checkOuts_q a _ n _ (HKa.out _ HG.out) (HKm.out _ HG.out).2 HEa.out).mono ?_; rintro e w1 ⟨rfl, hb⟩; replace HG := Lib.hid (HG.out.trans (hb.mono hKw0)); have hKw1 : K ≤ w1.heap.size := Nat.le_trans hKw0 hb.size; clear hb))
    go_ret2
    exact ⟨rfl, by rw [HK.out]; exact HG.out⟩

end Go.Proofs.YtbhildmalcfhiaaGreatDoor

namespace Go.Proofs.YtbhildmalcfhiaaGreatDoor
open Go.RowKit Go.Deep

set_option maxRecDepth 100000 in
set_option maxHeartbeats 2000000 in
theorem equalOuts_sameQ (l : List OutV) (v1 v2 : Value) (w : World) (h1 : OutsAt w v1 l) (h2 : OutsAt w v2 l) :
    Calls Tryz.prog 43 #[v1, v2] w fun e w' => e = .returned (.bool true) ∧ ∃ m, w' = w.drewN m := by
  obtain ⟨A1, c1, b1, o1, rfl, hl1, hc1, hA1, hcell1⟩ := h1
  obtain ⟨A2, c2, b2, o2, rfl, hl2, hc2, hA2, hcell2⟩ := h2
  have HC1 := Lib.hid hcell1; have HC2 := Lib.hid hcell2
  have HA1 := Lib.hid hA1; have HA2 := Lib.hid hA2
  clear hcell1 hcell2 hA1 hA2
  unfold maxLen at hc1
  go_enter Tryz.func43, Tryz.ntmps43
  go_wp2_with fail
  go_loopw [13] (fun i wr => ∃ k q : Nat, k ≤ l.length ∧ i = .int .i64 k ∧ wr = w.drewN q) (fun i _ => l.length - (intOf i).toNat)
  case atStart => exact ⟨0, 0, Nat.zero_le _, rfl, rfl⟩
  case round =>
    obtain ⟨k, q, hk, rfl, rfl⟩ := hrel
    by_cases hlt : k < l.length
    · have hne : l ≠ [] := by intro h; rw [h] at hlt; simp at hlt
      obtain rfl := HA1.out hne
      obtain rfl := HA2.out hne
      obtain ⟨x, hx⟩ : ∃ x, l[k]? = some x := ⟨_, List.getElem?_eq_getElem hlt⟩
      obtain ⟨p0, p1⟩ := HC1.out k x hx
      obtain ⟨q0, q1⟩ := HC2.out k x hx
      clear hx
      go_wp2_with fail
      go_quiet (fail)
      go_wp2_with fail
      go_roundw
      case rel => exact ⟨k + 1, q + nq, by omega, by go_num, rfl⟩
      case measure => simp [intOf]; omega
    · go_wp2_with fail
      go_ret
      exact ⟨rfl, _, rfl⟩

theorem stepsC_at : ∀ (l : List (StepR × Value)) (i : Nat) (a : StepR × Value), l[i]? = some a → (stepsC l)[i * 2]? = some (.bool a.1.rem) ∧ (stepsC l)[i * 2 + 1]? = some a.2
  | [], i, a, h => by simp at h
  | b :: r, 0, a, h => by
    simp at h
    subst h
    exact ⟨rfl, rfl⟩
  | b :: r, i + 1, a, h => by
    have ih := stepsC_at r i a (by simpa using h)
    rw [show stepsC (b :: r) = stepRow b ++ stepsC r from rfl, List.getElem?_append_right (by simp [stepRow]; omega), List.getElem?_append_right (by simp [stepRow]; omega)]
    rw [show (i + 1) * 2 - (stepRow b).length = i * 2 by simp [stepRow]; omega, show (i + 1) * 2 + 1 - (stepRow b).length = i * 2 + 1 by simp [stepRow]; omega]
    exact ih

set_option maxRecDepth 100000 in
set_option maxHeartbeats 4000000 in
theorem sameSteps_q (L1 L2 : List (StepR × Value)) (B1 B2 : Nat) (v1 v2 : Value) (w : World) (h1 : StepsOwn w B1 v1 L1) (h2 : StepsOwn w B2 v2 L2) (he : L1.map (·.1) = L2.map (·.1)) (hl9 : L1.length ≤ 1500) :
    Calls Tryz.prog 18 #[v1, v2] w fun e w' => e = .returned (.bool true) ∧ Below w.heap.size w w' := by
  have hl : L2.length = L1.length := by have := congrArg List.length he; simpa using this.symm
  have HR1 := Lib.hid h1.row; have HR2 := Lib.hid h2.row
  rw [hl] at HR2
  have HF1 := Lib.hid h1.file; have HF2 := Lib.hid h2.file
  obtain ⟨n, hn⟩ : ∃ n, L1.length = n := ⟨_, rfl⟩
  have HL1 := Lib.hid hn
  have HL2 := Lib.hid (hl.trans hn)
  rw [hn] at HR1 HR2 hl9
  have HE := Lib.hid he
  clear h1 h2 he hl hn
  obtain ⟨A1, c1, rfl, _, _, hA1⟩ := own_form HR1.out
  obtain ⟨A2, c2, rfl, _, _, hA2⟩ := own_form HR2.out
  have HA1 := Lib.hid hA1; have HA2 := Lib.hid hA2
  clear hA1 hA2
  go_enter Tryz.func18, Tryz.ntmps18
  go_wp2_with fail
  go_loopw [13] (fun i wr => ∃ k q : Nat, k ≤ n ∧ i = .int .i64 k ∧ wr = w.drewN q) (fun i _ => n - (intOf i).toNat)
  case atStart => exact ⟨0, 0, Nat.zero_le _, rfl, rfl⟩
  case round =>
    obtain ⟨k, q, hk, rfl, rfl⟩ := hrel
    by_cases hlt : k < n
    · obtain ⟨g1, rfl, _⟩ := HA1.out (by omega)
      obtain ⟨g2, rfl, _⟩ := HA2.out (by omega)
      obtain ⟨x, hx⟩ : ∃ x, L1[k]? = some x := ⟨_, List.getElem?_eq_getElem (by rw [HL1.out]; exact hlt)⟩
      obtain ⟨y, hy⟩ : ∃ x, L2[k]? = some x := ⟨_, List.getElem?_eq_getElem (by rw [HL2.out]; exact hlt)⟩
      have hxy : x.1 = y.1 := by
        have h3 := congrArg (·[k]?) HE.out
        simpa [hx, hy] using h3
      obtain ⟨a0, a1⟩ := stepsC_at _ _ _ hx
      obtain ⟨b0, b1⟩ := stepsC_at _ _ _ hy
      have p0 : w.cell? ⟨g1, k * 2, none⟩ = some (.bool x.1.rem) := by rw [HR1.out.cellAt (k * 2) (by omega)]; exact a0
      have p1 : w.cell? ⟨g1, k * 2 + 1, none⟩ = some x.2 := by rw [HR1.out.cellAt (k * 2 + 1) (by omega)]; exact a1
      have q0 : w.cell? ⟨g2, k * 2, none⟩ = some (.bool y.1.rem) := by rw [HR2.out.cellAt (k * 2) (by omega)]; exact b0
      have q1 : w.cell? ⟨g2, k * 2 + 1, none⟩ = some y.2 := by rw [HR2.out.cellAt (k * 2 + 1) (by omega)]; exact b1
      have ho1 := outs_own (HF1.out x (List.mem_of_getElem? hx))
      have ho2 := outs_own (HF2.out y (List.mem_of_getElem? hy))
      rw [← hxy] at q0 ho2
      have HQ := Lib.hid (show ∀ m, Calls Tryz.prog 43 #[x.2, y.2] ((w.drewN q).drewN m) fun e w' => e = .returned (.bool true) ∧ ∃ m2, w' = ((w.drewN q).drewN m).drewN m2 from fun m => equalOuts_sameQ _ _ _ _ (ho1.keep (Keeps.of_below (Below.drewN' (Below.drewN' (Below.refl _ _) q) m))) (ho2.keep (Keeps.of_below (Below.drewN' (Below.drewN' (Below.refl _ _) q) m))))
      obtain ⟨W, hW⟩ : ∃ W, w.drewN q = W := ⟨_, rfl⟩
      rw [hW] at HQ
      have HW := Lib.hid hW
      replace p0 : W.cell? ⟨g1, k * 2, none⟩ = some (.bool x.1.rem) := by rw [← hW]; exact p0
      replace p1 : W.cell? ⟨g1, k * 2 + 1, none⟩ = some (x.2) := by rw [← hW]; exact p1
      replace q0 : W.cell? ⟨g2, k * 2, none⟩ = some (.bool x.1.rem) := by rw [← hW]; exact q0
      replace q1 : W.cell? ⟨g2, k * 2 + 1, none⟩ = some (y.2) := by rw [← hW]; exact q1
      rw [hW]
      clear hW
      obtain ⟨rm, hrm⟩ : ∃ r, x.1.rem = r := ⟨_, rfl⟩
      obtain ⟨f1, hf1⟩ : ∃ r, x.2 = r := ⟨_, rfl⟩
      obtain ⟨f2, hf2⟩ : ∃ r, y.2 = r := ⟨_, rfl⟩
      rw [hrm] at p0 q0
      rw [hf1] at p1 HQ
      rw [hf2] at q1 HQ
      clear hx hy hxy a0 a1 b0 b1 ho1 ho2 hrm hf1 hf2
      have hk2 : (k : Int) < (n : Int) := by omega
      have hr9 : (rm != rm) = false := by cases rm <;> rfl
      go_wp2_with fail
      go_quiet ((go_at_call 43; exact Calls.quiet_of (HQ.out _)))
      go_wp2_with fail
      go_roundw
      case rel => exact ⟨k + 1, q + nq, by omega, by go_num, by rw [← HW.out, World.drewN_drewN]⟩
      case measure => simp [intOf]; omega
    · have hk2 : ¬ (k : Int) < (n : Int) := by omega
      go_wp2_with fail
      go_ret
      exact ⟨rfl, Below.drewN' (Below.refl _ _) _⟩

end Go.Proofs.YtbhildmalcfhiaaGreatDoor

namespace Go.Proofs.YtbhildmalcfhiaaGreatDoor
open Go.RowKit Go.Deep

theorem planE_zero {a b : List OutV} (h : planE a b = 0) : outsE a = 0 ∧ outsE b = 0 ∧ pagesE b = 0 ∧ sitesE a b = 0 := by
  by_cases ha : outsE a = 0
  · by_cases hb : outsE b = 0
    · by_cases hp : pagesE b = 0
      · rw [planE_s ha hb hp] at h; exact ⟨ha, hb, hp, h⟩
      · rw [planE_p ha hb hp] at h; exact absurd h hp
    · rw [planE_b ha hb] at h; exact absurd h hb
  · rw [planE_a ha] at h; exact absurd h ha

set_option maxRecDepth 100000 in
set_option maxHeartbeats 4000000 in
theorem shipPlans_walk (a b : List OutV) (va vb : Value) (w : World) (h : OutsAt w va a) (h2 : OutsAt w vb b) (hm : MaxT w.heap.size w) :
    Calls Tryz.prog 5 #[va, vb] w fun e w' => e = .returned (.bool true) ∧ Below w.heap.size w w' := by
  have HA := Lib.hid h; have HB := Lib.hid h2; have HM := Lib.hid hm
  have HKa := Lib.hid (show ∀ wr, Below w.heap.size w wr → OutsAt wr va a ∧ OutsAt wr vb b ∧ MaxT wr.heap.size wr from fun wr hb => ⟨HA.out.keep (Keeps.of_below hb), HB.out.keep (Keeps.of_below hb), (HM.out.keep hb).up hb.size⟩)
  obtain ⟨n, hn⟩ : ∃ n, planE a b = n := ⟨_, rfl⟩
  have HN := Lib.hid hn
  by_cases h0 : n = 0
  · subst h0
    obtain ⟨ha, hb, hp, hs⟩ := planE_zero hn
    have HEa := Lib.hid ha; have HEb := Lib.hid hb; have HEp := Lib.hid hp; have HEs := Lib.hid hs
    have HU := Lib.hid (fun (C1 C2 : List (List Nat)) (h1 : StepsC (tosP b) (fun k => (freshL a b).getD k false) C1) (h2 : StepsC (fun k => rowOf b (allLinks b) k) (fun k => (freshL a b).getD k false) C2) => h1.unique ((tos_same (outs_riseP hb) _ (fun k hk => by obtain ⟨o, ho, _⟩ := freshL_at hk; exact (List.getElem?_eq_some_iff.1 ho).1)).steps h2))
    clear h h2 hm hn ha hb hp hs
    go_enter Tryz.func5, Tryz.ntmps5
    go_upto_region 2 with (go_at_call 16; go_loud (refine (plan_ok a b va vb w HA.out HB.out HM.out HEa.out HEb.out HEp.out HEs.out).mono ?_; rintro e w1 ⟨v1, L1, C1, rfl, hs1, hm1, hc1, hl1, hb1⟩; have HS1 := Lib.hid hs1; have HM1 := Lib.hid hm1; have HC1 := Lib.hid hc1; have HB1 := Lib.hid hb1; clear hs1 hm1 hc1 hb1))
    go_upto_region 3 with (go_at_call 17; go_loud (refine (planError_q a b va vb 0 w1 (HKa.out _ HB1.out).1 (HKa.out _ HB1.out).2.1 (HKa.out _ HB1.out).2.2 HN.out).mono ?_; rintro e w2 ⟨rfl, hb2⟩; have HS2 := Lib.hid (HS1.out.below hb2); have HB2 := Lib.hid (HB1.out.trans (hb2.mono HB1.out.size)); clear hb2))
    go_wp2_with (first
      | (go_at_call 19; go_loud (refine (planOf_q a b va vb w2 (HKa.out _ HB2.out).1 (HKa.out _ HB2.out).2.1 (HKa.out _ HB2.out).2.2 HEa.out HEb.out HEp.out).mono ?_; rintro e w3 ⟨v2, L2, C2, rfl, hs3, hm3, hc3, hl3, hb3⟩; have HS3 := Lib.hid hs3; have HM3 := Lib.hid (show L1.map (·.1) = L2.map (·.1) by rw [HM1.out, hm3, HU.out C1 C2 HC1.out hc3]); have HS4 := Lib.hid (HS2.out.below hb3); have HB3 := Lib.hid (HB2.out.trans (hb3.mono HB2.out.size)); clear hs3 hm3 hc3 hb3))
      | (go_at_call 18; go_loud (refine (sameSteps_q L1 L2 _ _ v1 v2 w3 HS4.out HS3.out HM3.out hl1).mono ?_; rintro e w4 ⟨rfl, hb4⟩; have HB4 := Lib.hid (HB3.out.trans (hb4.mono HB3.out.size)); clear hb4)))
    go_ret
    exact ⟨rfl, HB4.out⟩
  · have z1 : (n == 0) = false := beq_eq_false_iff_ne.2 h0
    have z2 : (n != 0) = true := by rw [bne, z1]; rfl
    have z3 : (n == n) = true := by simp
    have HZ := Lib.hid h0
    clear h h2 hm hn h0
    go_enter Tryz.func5, Tryz.ntmps5
    go_upto_region 2 with (go_at_call 16; go_loud (refine (plan_err a b va vb n w HA.out HB.out HM.out HN.out HZ.out).mono ?_; rintro e w1 ⟨rfl, hb1⟩; have HB1 := Lib.hid hb1; clear hb1))
    go_wp2_with (go_at_call 17; go_loud (refine (planError_q a b va vb n w1 (HKa.out _ HB1.out).1 (HKa.out _ HB1.out).2.1 (HKa.out _ HB1.out).2.2 HN.out).mono ?_; rintro e w2 ⟨rfl, hb2⟩; have HB2 := Lib.hid (HB1.out.trans (hb2.mono HB1.out.size)); clear hb2))
    go_ret
    exact ⟨rfl, HB2.out⟩

end Go.Proofs.YtbhildmalcfhiaaGreatDoor

namespace Go.Proofs.YtbhildmalcfhiaaGreatDoor
open Go.RowKit Go.ChangeShapes Go.WideShapes Go.ChangeAt Go.Deep

theorem own : ownKnob Tryz.prog.godebug = none := by kernel_rfl
theorem laidOut : laidOutB Tryz.prog = true := by kernel_rfl

section
variable {H : Type} {enc : TypeId × Value → H}

theorem trodAll_stays {W W' : World} {sp : Nat → Bool} (hb : Below W.heap.size W W') : ∀ {ts : List TypeId} {vs : List Value} {ds : List (DataW H)} {ps : List MemPlace},
    (∀ t, t ∈ ts → Tryz.prog.readableRec t = true ∧ t < Tryz.prog.types.size) → DataW.TrodAll enc Tryz.prog W 0 (fun _ => true) true ts vs ds ps →
    (∀ x ∈ ps, x.block < W.heap.size) → (∀ x ∈ ps, sp x.block = true) → DataW.TrodAll enc Tryz.prog W' 0 sp true ts vs ds ps
  | [], [], [], ps, _, h, _, _ => h
  | [], _ :: _, _, _, _, h, _, _ => by simp [DataW.TrodAll] at h
  | [], [], _ :: _, _, _, h, _, _ => by simp [DataW.TrodAll] at h
  | _ :: _, [], _, _, _, h, _, _ => by simp [DataW.TrodAll] at h
  | _ :: _, _ :: _, [], _, _, h, _, _ => by simp [DataW.TrodAll] at h
  | t :: ts, v :: vs, d :: ds, ps, ht, h, hlt, hsp => by
    obtain ⟨p, q, h1, h2, rfl⟩ := h
    refine ⟨p, q, ?_, ?_, rfl⟩
    · exact WideElems.Trod_stays laidOut (ht t (by simp)).1 (ht t (by simp)).2 h1 (fun x hx => hb.same (hlt x (by simp [hx]))) (fun x hx => hsp x (by simp [hx]))
    · exact trodAll_stays hb (fun t' h' => ht t' (by simp [h'])) h2 (fun x hx => hlt x (by simp [hx])) (fun x hx => hsp x (by simp [hx]))

theorem law_post {f : Func} {s : ChangeSpec} {W W' : World} {args : Array Value} {ds gs : List (DataW H)} {before : List MemPlace} {tb : TypeId}
    (hvars : s.vars = []) (hfn : s.fn H (ds ++ gs) = { results := [.lit (.bool true)], args := ds }) (hrt : f.resultTypes = #[tb]) (htb : Tryz.prog.underlying tb = some .bool)
    (hts : ∀ t, t ∈ f.params.toList → Tryz.prog.readableRec t = true ∧ t < Tryz.prog.types.size)
    (hW : DataW.Whole enc Tryz.prog f.params.toList s.vars false W args.toList ds gs before) (hb : Below W.heap.size W W') :
    s.post enc Tryz.prog f false true false false W args (.bool true) W' := by
  have hlt : ∀ p ∈ before, p.block < W.heap.size := fun p hp => hW.lt p hp
  have hold : ∀ p ∈ before, (fun b => decide (b < W.heap.size)) p.block = true := fun p hp => by simpa using hlt p hp
  have hW' := hW
  obtain ⟨p, q, hA, hV, rfl, hz, _⟩ := hW
  rw [hvars] at hV
  obtain ⟨rfl, rfl⟩ := trodVars_none hV
  simp only [List.append_nil] at *
  refine ⟨ds, [], p, [], p, [], by simpa using hW', ?_, ?_, ?_, World.keptBut_mono (fun x hx => ⟨hx, ?_⟩) (hb.frame (· ∈ p)), fun h => by cases h⟩
  · rw [List.append_nil, hfn, hrt]
    exact trodAll_mk1 (shut_bool htb true)
  · rw [List.append_nil, hfn]
    exact trodAll_stays hb hts hA hlt hold
  · rw [hvars, List.append_nil, hfn]
    exact rfl
  · exact Or.inr (Or.inl hx)

end

end Go.Proofs.YtbhildmalcfhiaaGreatDoor

namespace Go.Proofs.YtbhildmalcfhiaaGreatDoor
open Go.RowKit Go.ChangeShapes Go.WideShapes Go.ChangeAt Go.Deep

theorem maxLen_at {W : World} (h : W.ShapedOpen Tryz.prog) : ∃ m, W.cell? ⟨2, 0, none⟩ = some (.int .i64 m) := (Tryz.laysM143).s1_3 W h
theorem max_of {W : World} (h : ∃ m, W.cell? ⟨2, 0, none⟩ = some (.int .i64 m)) : MaxT W.heap.size W := by
  obtain ⟨m, hm⟩ := h
  exact ⟨World.block_lt_of_cell? _ _ hm, m, hm⟩
set_option maxRecDepth 100000 in
theorem shipPlans_calls (H : Type) (enc : TypeId × Value → H) (W : World) (base : Nat) (args : Array Value) (ds gs : List (DataW H)) (before : List MemPlace)
    (hval : ∀ (j : Nat) t v, Tryz.f5.params[j]? = some t → args[j]? = some v → Value.okWide Tryz.prog W .any base t v)
    (hW : DataW.Whole enc Tryz.prog Tryz.f5.params.toList Rows.shipPlansSpec.vars false W args.toList ds gs before) (hsh : W.ShapedOpen Tryz.checked.prog) :
    Calls Tryz.prog 5 args W fun e W' => ∃ v, e = .returned v ∧ Rows.shipPlansSpec.post enc Tryz.prog Tryz.f5 false true false false W args v W' := by
  have hW' := hW
  obtain ⟨p, q, hA0, hV, rfl, hfz, hnd⟩ := hW
  have hA : DataW.TrodAll enc Tryz.prog W 0 (fun _ => true) true Tryz.f5.params.toList args.toList ds p := hA0
  rw [Tryz.params5] at hA hval
  obtain ⟨v0, v1, d0, d1, p0, p1, rfl, rfl, rfl, h0, h1⟩ := trodAll_two hA
  obtain ⟨rfl, rfl⟩ := trodVars_none hV
  obtain ⟨fu0, g0⟩ := h0
  obtain ⟨u0, l0, e0, n0⟩ := open_outs _ _ _ g0
  obtain ⟨a0, len0, cap0, rfl⟩ := okWide_slice Tryz.underlying22 (hval 0 22 v0 rfl rfl)
  simp only [Value.cells, List.cons.injEq, and_true] at e0
  subst e0
  obtain ⟨fu1, g1⟩ := h1
  obtain ⟨u1, l1, e1, n1⟩ := open_outs _ _ _ g1
  obtain ⟨a1, len1, cap1, rfl⟩ := okWide_slice Tryz.underlying22 (hval 1 22 v1 rfl rfl)
  simp only [Value.cells, List.cons.injEq, and_true] at e1
  subst e1
  refine (shipPlans_walk l0 l1 _ _ W n0 n1 (max_of (maxLen_at hsh))).mono fun e W' ⟨he, hb⟩ => ?_
  subst he
  refine ⟨_, rfl, law_post rfl rfl (tb := 4) (by kernel_rfl) Tryz.underlying4 ?_ hW' hb⟩
  rw [Tryz.params5]
  intro t ht
  simp only [List.mem_cons, List.not_mem_nil, or_false] at ht
  rcases ht with rfl | rfl <;> exact ⟨by kernel_rfl, of_decide_eq_true (by kernel_rfl)⟩

set_option maxRecDepth 100000 in
theorem shipPlans_met (os : Os) : laidMet Tryz.prog Rows.shipPlansRow.laid ((World.laidAll Tryz.prog os Rows.shipPlansRow.laid).forCall (fun _ _ => 0) ⟨#[], #[.slice none 0 0, .slice none 0 0], []⟩).memory :=
  laidMet_laidAll _ (by kernel_rfl) (by kernel_rfl)

theorem shipPlans_reads (os : Os) {H : Type} (enc : TypeId × Value → H) : ∃ places, DataW.whole enc Tryz.prog ((World.laidAll Tryz.prog os Rows.shipPlansRow.laid).forCall (fun _ _ => 0) ⟨#[], #[.slice none 0 0, .slice none 0 0], []⟩).memory Tryz.f5.params.toList Rows.shipPlansSpec.vars false (#[(.slice none 0 0 : Value), (.slice none 0 0 : Value)] : Array Value).toList 8 = some ([.nil, .nil], [], places) :=
  ⟨[], by kernel_rfl⟩

set_option maxRecDepth 100000 in
theorem shipPlans_lifted (os : Os) (started : os.Started) (H : Type) (enc : TypeId × Value → H) (F : Stop.Interp) :
    ReturnsInHanded {} Tryz.checked os 5 .any ((OpenSpec.ofChange Rows.shipPlansSpec).preRow enc Tryz.prog Tryz.f5 Rows.shipPlansRow.domain false Rows.shipPlansRow.laid) (((OpenSpec.ofChange Rows.shipPlansSpec).at F).post enc Tryz.prog Tryz.f5 false true false false) := by
  obtain ⟨places, hx⟩ := shipPlans_reads os enc
  refine returnsInHanded_of_row (C := Tryz.checked) (s := (OpenSpec.ofChange Rows.shipPlansSpec)) own started (by kernel_rfl) Tryz.func5
    (witness_row_at (enc := enc) (C := Tryz.checked) false (World.laidAll Tryz.prog os Rows.shipPlansRow.laid) #[.slice none 0 0, .slice none 0 0] (World.laidAll_os _ _ _) (by kernel_rfl) (by kernel_rfl) (by kernel_rfl)
      (OpenSpec.preRow_of_cond 8 hx (by kernel_rfl) (fun k hk => by cases hk) (by kernel_rfl) (shipPlans_met os))) ?_
  intro W base args ds gs before hval hW _ hk _ hL hsh _
  exact shipPlans_calls H enc W base args ds gs before hval hW hsh

theorem shipPlans_said : Rows.ShipPlansSaid :=
  OpenClaim.holds_of_cond 5 Tryz.f5 rfl rfl rfl rfl rfl rfl rfl ⟨rfl, rfl, rfl, rfl, rfl⟩ rfl rfl rfl rfl rfl (by kernel_rfl) Tryz.func5 (by kernel_rfl)
    (of_decide_eq_true (by kernel_rfl)) (by unfold Func.isWrapper; first | (rw [if_pos (by decide +kernel)]; kernel_rfl) | (rw [if_neg (by decide +kernel)]; exact ⟨rfl, rfl⟩))
    (fun os started H enc _ F => by rw [OpenClaim.pre_eq_preRow]; exact shipPlans_lifted os started H enc F)

theorem shipPlans_plain (f : FuncId) (fn : Func) (hf : Tryz.pinned.checked.prog.funcNamed "masthead/mastlaw1.ShipPlans" = some f) (hfn : Tryz.pinned.checked.prog.funcs[f]? = some fn) :
    true = Tryz.pinned.checked.prog.looks [] ∧ ∀ (j : Nat) t, fn.params[j]? = some t → Tryz.pinned.checked.prog.wantsStandIn t = false := by
  obtain rfl : f = 5 := Option.some.inj ((show Tryz.prog.funcNamed "masthead/mastlaw1.ShipPlans" = some 5 by kernel_rfl).symm.trans hf) |>.symm
  obtain rfl : fn = Tryz.f5 := (Option.some.inj (Tryz.func5.symm.trans hfn)).symm
  refine ⟨by kernel_rfl, fun j t ht => ?_⟩
  rw [Tryz.params5] at ht
  have h2 := Array.mem_of_getElem? ht
  simp at h2
  subst h2
  exact (show Tryz.prog.wantsStandIn 22 = false by kernel_rfl)

theorem shipPlans_card : Rows.ShipPlansCardSaid :=
  Claim7.holds_tied_plain_at .later [] _ _ _ _ shipPlans_said (fun _ h => by cases h) (by kernel_rfl) (fun _ h => by cases h) shipPlans_row_tie rfl ⟨rfl, rfl⟩ (by kernel_rfl) rfl shipPlans_plain (by kernel_rfl)

end Go.Proofs.YtbhildmalcfhiaaGreatDoor
