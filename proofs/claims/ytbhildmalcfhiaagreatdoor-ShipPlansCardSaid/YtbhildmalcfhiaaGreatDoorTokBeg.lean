/-
  Tokens: where a token begins: the scanner's begins.
-/
import Derived.Test.YtbhildmalcfhiaaGreatDoorTokScan
namespace Go.Proofs.YtbhildmalcfhiaaGreatDoor
open Go.RowKit Go.Deep

set_option maxRecDepth 100000 in
set_option maxHeartbeats 4000000 in
theorem begins_q (bx : Nat) (s : ByteArray) (i k : Nat) (ov : Value) (v : Bool) (w : World) (hX : ScanAt w bx s i ov) (hk : k < s.size) (hs : s.size ≤ 1048576) (hv : decide (kindAt s k ≠ 0) = v) :
    Calls Tryz.prog 46 #[.pointer (some ⟨bx, 0, none⟩), .int .i64 (k : Int)] w fun e w' => e = .returned (.bool v) ∧ w = w' := by
  have b0 : w.cell? ⟨bx, 0, none⟩ = some (.string s) := hX.c 0
  have hlt : bx < w.heap.size := hX.lt
  clear hX
  have hk0 : (0 : Int) ≤ (k : Int) := by omega
  have hk1 : (k : Int) < (s.size : Int) := by omega
  obtain ⟨n0, hn0⟩ : ∃ n, nAt s k = n := ⟨_, rfl⟩
  have e0 : ((s[k]'hk).toNat : Int) = n0 := by rw [bAt_idx hk]; exact hn0
  by_cases hk2 : k + 1 < s.size
  · have e9 : ((k : Int) + 1 == (s.size : Int)) = false := by rw [beq_eq_false_iff_ne]; omega
    have hk2' : (k : Int) + 1 < (s.size : Int) := by omega
    obtain ⟨n1, hn1⟩ : ∃ n, nAt s (k + 1) = n := ⟨_, rfl⟩
    have e1 : ((s[k + 1]'hk2).toNat : Int) = n1 := by rw [bAt_idx hk2]; exact hn1
    obtain ⟨y, hy⟩ : ∃ a, isLetterP n1 = a := ⟨_, rfl⟩
    by_cases hk3 : k + 2 < s.size
    · have hk3' : (k : Int) + 2 < (s.size : Int) := by omega
      obtain ⟨n2, hn2⟩ : ∃ n, nAt s (k + 2) = n := ⟨_, rfl⟩
      have e2 : ((s[k + 2]'hk3).toNat : Int) = n2 := by rw [bAt_idx hk3]; exact hn2
      obtain ⟨y2, hy2⟩ : ∃ a, isLetterP n2 = a := ⟨_, rfl⟩
      have HV := Lib.hid (show v = ((n0 == 60) && (y || (n1 == 33) || (n1 == 63) || ((n1 == 47) && y2))) by
        rw [← hv, ← hy, ← hy2, ← hn0, ← hn1, ← hn2]
        exact kind_bool3 hk3)
      have HY := Lib.hid hy
      have HY2 := Lib.hid hy2
      clear hv hn0 hn1 hn2 hy hy2
      go_enter Tryz.func46, Tryz.ntmps46
      go_wp2_with (go_at_call 80; go_must (refine (shipIsLetter_any _ _ _ (by first | exact HY.out | exact HY2.out)).mono ?_); rintro e w1 ⟨rfl, rfl⟩)
      all_goals
        go_ret
        exact ⟨ret_bool (by rw [HV.out]; first | rfl | (simp_all; done)), rfl⟩
    · have hk3' : ¬ (k : Int) + 2 < (s.size : Int) := by omega
      have HV := Lib.hid (show v = ((n0 == 60) && (y || (n1 == 33) || (n1 == 63))) by
        rw [← hv, ← hy, ← hn0, ← hn1]
        exact kind_bool2 hk2 hk3)
      have HY := Lib.hid hy
      clear hv hn0 hn1 hy
      go_enter Tryz.func46, Tryz.ntmps46
      go_wp2_with (go_at_call 80; go_must (refine (shipIsLetter_any _ _ _ (by exact HY.out)).mono ?_); rintro e w1 ⟨rfl, rfl⟩)
      all_goals
        go_ret
        exact ⟨ret_bool (by rw [HV.out]; first | rfl | (simp_all; done)), rfl⟩
  · have e9 : ((k : Int) + 1 == (s.size : Int)) = true := by rw [beq_iff_eq]; omega
    have HV := Lib.hid (show v = false by rw [← hv]; exact kind_bool1 hk2)
    clear hv hn0
    go_enter Tryz.func46, Tryz.ntmps46
    go_wp2_with fail
    all_goals
      go_ret
      exact ⟨ret_bool HV.out.symm, rfl⟩

end Go.Proofs.YtbhildmalcfhiaaGreatDoor
