/-
  Kinds: isBlock, isInline, permitted, on both sides.
-/
import Derived.Test.YtphmhhonbkcajaaDoorCheckPlain
import Derived.BigQuiet
import Derived.Deep.QuietTactic
import Derived.Outline
import Derived.RegionTactic
import Derived.Deep.DeepMust
namespace Go.Proofs.YtphmhhonbkcajaaDoor
open Go.RowKit Go.Deep

theorem isInline_m (k : Int) (w : World) : Calls Tryd.prog 26 #[.int .i64 k] w fun e w' => e = .returned (.bool (isInlineB k)) ∧ w = w' := by
  go_enter Tryd.func26, Tryd.ntmps26
  go_wp2_with fail
  all_goals
    go_ret
    exact ⟨ret_bool (by simp [isInlineB]; try omega), rfl⟩

theorem isBlock_m (k : Int) (w : World) : Calls Tryd.prog 38 #[.int .i64 k] w fun e w' => e = .returned (.bool (isBlockB k)) ∧ w = w' := by
  go_enter Tryd.func38, Tryd.ntmps38
  go_wp2_with fail
  all_goals
    go_ret
    exact ⟨ret_bool (by simp [isBlockB]; try omega), rfl⟩

set_option maxHeartbeats 1000000 in
theorem permitted_m (kind parent : Int) (w : World) : Calls Tryd.prog 30 #[.int .i64 kind, .int .i64 parent] w fun e w' => e = .returned (.bool (permittedB kind parent)) ∧ w = w' := by
  go_enter Tryd.func30, Tryd.ntmps30
  go_wp2_with (first
    | (go_at_call 38; refine (isBlock_m _ _).mono ?_; rintro e w1 ⟨rfl, rfl⟩)
    | (go_at_call 26; refine (isInline_m _ _).mono ?_; rintro e w1 ⟨rfl, rfl⟩))
  all_goals
    go_ret
    refine ⟨ret_bool ?_, rfl⟩
    rw [Bool.eq_iff_iff]
    simp_all [permittedB, isBlockB] <;> omega

end Go.Proofs.YtphmhhonbkcajaaDoor
