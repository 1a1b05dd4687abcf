/-
  Kinds: isBlock, isInline, permitted, on both sides.
-/
import Derived.Test.YtikcmmkeblgamaaCheckPlain
import Derived.BigQuiet
import Derived.Deep.QuietTactic
import Derived.Outline
import Derived.RegionTactic
import Derived.Deep.DeepMust
namespace Go.Proofs.Ytikcmmkeblgamaa
open Go.RowKit Go.Deep

theorem isInline_m (k : Int) (w : World) : Calls Try.prog 66 #[.int .i64 k] w fun e w' => e = .returned (.bool (isInlineB k)) ∧ w = w' := by
  go_enter Try.func66, Try.ntmps66
  go_wp2_with fail
  all_goals
    go_ret
    exact ⟨ret_bool (by simp [isInlineB]; try omega), rfl⟩

theorem isBlock_m (k : Int) (w : World) : Calls Try.prog 77 #[.int .i64 k] w fun e w' => e = .returned (.bool (isBlockB k)) ∧ w = w' := by
  go_enter Try.func77, Try.ntmps77
  go_wp2_with fail
  all_goals
    go_ret
    exact ⟨ret_bool (by simp [isBlockB]; try omega), rfl⟩

theorem isInline_r (k : Int) (w : World) : Calls Try.prog 61 #[.int .i64 k] w fun e w' => e = .returned (.bool (isInlineB k)) ∧ w = w' := by
  go_enter Try.func61, Try.ntmps61
  go_wp2_with fail
  all_goals
    go_ret
    exact ⟨ret_bool (by simp [isInlineB]; try omega), rfl⟩

theorem isBlock_r (k : Int) (w : World) : Calls Try.prog 76 #[.int .i64 k] w fun e w' => e = .returned (.bool (isBlockB k)) ∧ w = w' := by
  go_enter Try.func76, Try.ntmps76
  go_wp2_with fail
  all_goals
    go_ret
    exact ⟨ret_bool (by simp [isBlockB]; try omega), rfl⟩

set_option maxHeartbeats 1000000 in
theorem permitted_m (kind parent : Int) (w : World) : Calls Try.prog 71 #[.int .i64 kind, .int .i64 parent] w fun e w' => e = .returned (.bool (permittedB kind parent)) ∧ w = w' := by
  go_enter Try.func71, Try.ntmps71
  go_wp2_with (first
    | (go_at_call 77; refine (isBlock_m _ _).mono ?_; rintro e w1 ⟨rfl, rfl⟩)
    | (go_at_call 66; refine (isInline_m _ _).mono ?_; rintro e w1 ⟨rfl, rfl⟩))
  all_goals
    go_ret
    refine ⟨ret_bool ?_, rfl⟩
    rw [Bool.eq_iff_iff]
    simp_all [permittedB, isBlockB] <;> omega

set_option maxHeartbeats 1000000 in
theorem permitted_r (kind parent : Int) (w : World) : Calls Try.prog 68 #[.int .i64 parent, .int .i64 kind] w fun e w' => e = .returned (.bool (permittedB kind parent)) ∧ w = w' := by
  go_enter Try.func68, Try.ntmps68
  go_wp2_with (first
    | (go_at_call 76; refine (isBlock_r _ _).mono ?_; rintro e w1 ⟨rfl, rfl⟩)
    | (go_at_call 61; refine (isInline_r _ _).mono ?_; rintro e w1 ⟨rfl, rfl⟩))
  all_goals
    go_ret
    refine ⟨ret_bool ?_, rfl⟩
    rw [Bool.eq_iff_iff]
    simp_all [permittedB, isBlockB] <;> omega

end Go.Proofs.Ytikcmmkeblgamaa
