/-
  Kinds: isBlock, isInline, permitted, on both sides.
-/
import Derived.Test.YtikijmjcmpkkdaaGreatDoorCheckPlain
import Derived.BigQuiet
import Derived.Deep.QuietTactic
import Derived.Outline
import Derived.RegionTactic
import Derived.Deep.DeepMust
namespace Go.Proofs.YtikijmjcmpkkdaaGreatDoor
open Go.RowKit Go.Deep

theorem isInline_m (k : Int) (w : World) : Calls Tryz.prog 60 #[.int .i64 k] w fun e w' => e = .returned (.bool (isInlineB k)) ∧ w = w' := by
  go_enter Tryz.func60, Tryz.ntmps60
  go_wp2_with fail
  all_goals
    go_ret
    exact ⟨ret_bool (by simp [isInlineB]; try omega), rfl⟩

theorem isBlock_m (k : Int) (w : World) : Calls Tryz.prog 142 #[.int .i64 k] w fun e w' => e = .returned (.bool (isBlockB k)) ∧ w = w' := by
  go_enter Tryz.func142, Tryz.ntmps142
  go_wp2_with fail
  all_goals
    go_ret
    exact ⟨ret_bool (by simp [isBlockB]; try omega), rfl⟩

theorem isInline_r (k : Int) (w : World) : Calls Tryz.prog 39 #[.int .i64 k] w fun e w' => e = .returned (.bool (isInlineB k)) ∧ w = w' := by
  go_enter Tryz.func39, Tryz.ntmps39
  go_wp2_with fail
  all_goals
    go_ret
    exact ⟨ret_bool (by simp [isInlineB]; try omega), rfl⟩

theorem isBlock_r (k : Int) (w : World) : Calls Tryz.prog 41 #[.int .i64 k] w fun e w' => e = .returned (.bool (isBlockB k)) ∧ w = w' := by
  go_enter Tryz.func41, Tryz.ntmps41
  go_wp2_with fail
  all_goals
    go_ret
    exact ⟨ret_bool (by simp [isBlockB]; try omega), rfl⟩

set_option maxHeartbeats 1000000 in
theorem permitted_m (kind parent : Int) (w : World) : Calls Tryz.prog 97 #[.int .i64 kind, .int .i64 parent] w fun e w' => e = .returned (.bool (permittedB kind parent)) ∧ w = w' := by
  go_enter Tryz.func97, Tryz.ntmps97
  go_wp2_with (first
    | (go_at_call 142; refine (isBlock_m _ _).mono ?_; rintro e w1 ⟨rfl, rfl⟩)
    | (go_at_call 60; refine (isInline_m _ _).mono ?_; rintro e w1 ⟨rfl, rfl⟩))
  all_goals
    go_ret
    refine ⟨ret_bool ?_, rfl⟩
    rw [Bool.eq_iff_iff]
    simp_all [permittedB, isBlockB] <;> omega

set_option maxHeartbeats 1000000 in
theorem permitted_r (kind parent : Int) (w : World) : Calls Tryz.prog 66 #[.int .i64 parent, .int .i64 kind] w fun e w' => e = .returned (.bool (permittedB kind parent)) ∧ w = w' := by
  go_enter Tryz.func66, Tryz.ntmps66
  go_wp2_with (first
    | (go_at_call 41; refine (isBlock_r _ _).mono ?_; rintro e w1 ⟨rfl, rfl⟩)
    | (go_at_call 39; refine (isInline_r _ _).mono ?_; rintro e w1 ⟨rfl, rfl⟩))
  all_goals
    go_ret
    refine ⟨ret_bool ?_, rfl⟩
    rw [Bool.eq_iff_iff]
    simp_all [permittedB, isBlockB] <;> omega

end Go.Proofs.YtikijmjcmpkkdaaGreatDoor
