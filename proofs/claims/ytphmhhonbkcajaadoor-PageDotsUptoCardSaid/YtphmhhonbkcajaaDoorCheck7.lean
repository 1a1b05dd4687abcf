/-
  mark.Check and mastref1.DocError: both compute docErr.
-/
import Derived.Test.YtphmhhonbkcajaaDoorCheck6
namespace Go.Proofs.YtphmhhonbkcajaaDoor
open Go.RowKit Go.Deep

set_option maxHeartbeats 1000000 in
theorem check_any (l : List Node) (v : Value) (w : World) (h : NodesAt w v l) (ht : total l ≤ 1073741824) :
    Calls Tryd.prog 4 #[v] w fun e w' => e = .returned (.int .i64 (docErr l)) ∧ Below w.heap.size w w' := by
  have H := Lib.hid h; clear h
  by_cases h4 : 4000 < total l
  · have HR := Lib.hid (show docErr l = 4 by unfold docErr; rw [if_pos h4])
    go_enter Tryd.func4, Tryd.ntmps4
    go_wp2_with fail
    refine (count_any _ l v _ (Nat.le_refl _) H.out ht).mono ?_
    rintro e w1 ⟨c, rfl, rfl, hc1, hc2⟩
    have hc : 4000 < c := by
      rcases Nat.lt_or_ge 4000 c with h | h
      · exact h
      · have := hc2 h; omega
    clear hc2
    go_wp2_with fail
    go_ret
    exact ⟨ret_int HR.out.symm, Below.refl _ _⟩
  · cases hd : deepB l 0 0
    · have HR := Lib.hid (show docErr l = nodesErr l 0 by unfold docErr; rw [if_neg h4, hd]; rfl)
      have HD := Lib.hid hd; clear hd
      go_enter Tryd.func4, Tryd.ntmps4
      go_wp2_with fail
      refine (count_any _ l v _ (Nat.le_refl _) H.out ht).mono ?_
      rintro e w1 ⟨c, rfl, rfl, hc1, hc2⟩
      clear hc2
      go_wp2_with fail
      refine (tooDeep_any _ l v 0 0 _ (Nat.le_refl _) H.out (by omega) (by omega)).mono ?_
      rw [HD.out]
      rintro e w1 ⟨rfl, rfl⟩
      go_wp2_with fail
      refine (nodesFault_any _ l v 0 _ (Nat.le_refl _) H.out ht).mono ?_
      rintro e w1 ⟨rfl, hb⟩
      have HB := Lib.hid hb; clear hb
      go_wp2_with fail
      go_ret
      exact ⟨ret_int HR.out.symm, HB.out⟩
    · have HR := Lib.hid (show docErr l = 13 by unfold docErr; rw [if_neg h4, hd]; rfl)
      have HD := Lib.hid hd; clear hd
      go_enter Tryd.func4, Tryd.ntmps4
      go_wp2_with fail
      refine (count_any _ l v _ (Nat.le_refl _) H.out ht).mono ?_
      rintro e w1 ⟨c, rfl, rfl, hc1, hc2⟩
      clear hc2
      go_wp2_with fail
      refine (tooDeep_any _ l v 0 0 _ (Nat.le_refl _) H.out (by omega) (by omega)).mono ?_
      rw [HD.out]
      rintro e w1 ⟨rfl, rfl⟩
      go_wp2_with fail
      go_ret
      exact ⟨ret_int HR.out.symm, Below.refl _ _⟩

end Go.Proofs.YtphmhhonbkcajaaDoor
