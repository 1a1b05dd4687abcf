/-
  Kinds: isBlock, isInline, permitted, on both sides.
-/
import Derived.Test.YtlganccpgchmeaaDoorCheckPlain
import Derived.BigQuiet
import Derived.Deep.QuietTactic
import Derived.Outline
import Derived.RegionTactic
import Derived.Deep.DeepMust
namespace Go.Proofs.YtlganccpgchmeaaDoor
open Go.RowKit Go.Deep

theorem isInline_m (k : Int) (w : World) : Calls Tryd.prog 35 #[.int .i64 k] w fun e w' => e = .returned (.bool (isInlineB k)) ∧ w = w' := by
  go_enter Tryd.func35, Tryd.ntmps35
  go_wp2_with fail
  all_goals
    go_ret
    exact ⟨ret_bool (by simp [isInlineB]; try omega), rfl⟩

theorem isBlock_m (k : Int) (w : World) : Calls Tryd.prog 74 #[.int .i64 k] w fun e w' => e = .returned (.bool (isBlockB k)) ∧ w = w' := by
  go_enter Tryd.func74, Tryd.ntmps74
  go_wp2_with fail
  all_goals
    go_ret
    exact ⟨ret_bool (by simp [isBlockB]; try omega), rfl⟩

theorem isInline_r (k : Int) (w : World) : Calls Tryd.prog 37 #[.int .i64 k] w fun e w' => e = .returned (.bool (isInlineB k)) ∧ w = w' := by
  go_enter Tryd.func37, Tryd.ntmps37
  go_wp2_with fail
  all_goals
    go_ret
    exact ⟨ret_bool (by simp [isInlineB]; try omega), rfl⟩

theorem isBlock_r (k : Int) (w : World) : Calls Tryd.prog 43 #[.int .i64 k] w fun e w' => e = .returned (.bool (isBlockB k)) ∧ w = w' := by
  go_enter Tryd.func43, Tryd.ntmps43
  go_wp2_with fail
  all_goals
    go_ret
    exact ⟨ret_bool (by simp [isBlockB]; try omega), rfl⟩

set_option maxHeartbeats 1000000 in
theorem permitted_m (kind parent : Int) (w : World) : Calls Tryd.prog 50 #[.int .i64 kind, .int .i64 parent] w fun e w' => e = .returned (.bool (permittedB kind parent)) ∧ w = w' := by
  go_enter Tryd.func50, Tryd.ntmps50
  go_wp2_with (first
    | (go_at_call 74; refine (isBlock_m _ _).mono ?_; rintro e w1 ⟨rfl, rfl⟩)
    | (go_at_call 35; refine (isInline_m _ _).mono ?_; rintro e w1 ⟨rfl, rfl⟩))
  all_goals
    go_ret
    refine ⟨ret_bool ?_, rfl⟩
    rw [Bool.eq_iff_iff]
    simp_all [permittedB, isBlockB] <;> omega

set_option maxHeartbeats 1000000 in
theorem permitted_r (kind parent : Int) (w : World) : Calls Tryd.prog 55 #[.int .i64 parent, .int .i64 kind] w fun e w' => e = .returned (.bool (permittedB kind parent)) ∧ w = w' := by
  go_enter Tryd.func55, Tryd.ntmps55
  go_wp2_with (first
    | (go_at_call 43; refine (isBlock_r _ _).mono ?_; rintro e w1 ⟨rfl, rfl⟩)
    | (go_at_call 37; refine (isInline_r _ _).mono ?_; rintro e w1 ⟨rfl, rfl⟩))
  all_goals
    go_ret
    refine ⟨ret_bool ?_, rfl⟩
    rw [Bool.eq_iff_iff]
    simp_all [permittedB, isBlockB] <;> omega

end Go.Proofs.YtlganccpgchmeaaDoor
