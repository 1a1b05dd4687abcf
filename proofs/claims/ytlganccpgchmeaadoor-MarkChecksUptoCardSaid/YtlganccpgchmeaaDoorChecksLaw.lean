/-
  The law of checks, walked.
-/
import Derived.Test.YtlganccpgchmeaaDoorFitMBlk
import Derived.Test.YtlganccpgchmeaaDoorFitRBlk
namespace Go.Proofs.YtlganccpgchmeaaDoor
open Go.RowKit Go.ChangeShapes Go.WideShapes Go.Deep

set_option maxRecDepth 100000 in
set_option maxHeartbeats 2000000 in
theorem markChecks_walk (l : List Node) (v : Value) (w : World) (h : NodesAt w v l) (hw : weight l ≤ 1048576) (hm : MaxA w) : Calls Tryd.prog 3 #[v] w fun e w' => e = .returned (.bool true) ∧ Below w.heap.size w w' := by
  have H := Lib.hid h
  have HM := Lib.hid hm
  have htt : total l ≤ 1073741824 := by have := total_weight _ l (Nat.le_refl _); omega
  obtain ⟨d, hd⟩ : ∃ d, docErr l = d := ⟨_, rfl⟩
  obtain ⟨r, hr⟩ : ∃ r, (decide (docErr l = 0) && blkL l none) = r := ⟨_, rfl⟩
  have HD := Lib.hid hd
  have HR := Lib.hid hr
  have g3 : (d == d) = true := by simp
  have g4 : (r == r) = true := by simp
  clear h hm hd hr
  go_enter Tryd.func3, Tryd.ntmps3
  go_wp2_with (first
    | (go_at_call 6; go_must (refine (check_any l v _ H.out htt).mono ?_); rw [HD.out]; rintro e w1 ⟨rfl, hb⟩; have HB1 := Lib.hid hb; clear hb)
    | (go_at_call 7; go_must (refine (docError_any l v _ (H.out.keep (Keeps.of_below HB1.out)) htt).mono ?_); rw [HD.out]; rintro e w2 ⟨rfl, hb⟩; have HB2 := Lib.hid (HB1.out.trans (hb.mono HB1.out.size)); clear hb)
    | (go_at_call 8; go_must (refine (printable_q l v _ (H.out.keep (Keeps.of_below HB2.out)) hw (HM.out.keep (Keeps.of_below HB2.out))).mono ?_); rw [HR.out]; rintro e w3 ⟨rfl, hb⟩; have HB3 := Lib.hid (HB2.out.trans (hb.mono HB2.out.size)); clear hb)
    | (go_at_call 9; go_must (refine (canPrint_q l v _ (H.out.keep (Keeps.of_below HB3.out)) hw (HM.out.keep (Keeps.of_below HB3.out))).mono ?_); rw [HR.out]; rintro e w4 ⟨rfl, hb⟩; have HB4 := Lib.hid (HB3.out.trans (hb.mono HB3.out.size)); clear hb))
  go_ret
  exact ⟨rfl, HB4.out⟩

end Go.Proofs.YtlganccpgchmeaaDoor
