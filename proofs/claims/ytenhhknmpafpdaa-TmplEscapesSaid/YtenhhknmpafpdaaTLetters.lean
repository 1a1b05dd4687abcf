/-
  Letters and digits among bytes.
-/
import Derived.Test.YtenhhknmpafpdaaBase
import Derived.Deep.DeepMust
namespace Go.Proofs.Ytenhhknmpafpdaa
open Go.RowKit Go.Deep

def isLetterP (n : Int) : Bool := decide ((97 ≤ n ∧ n ≤ 122) ∨ (65 ≤ n ∧ n ≤ 90))
def isDigitP (n : Int) : Bool := decide (48 ≤ n ∧ n ≤ 57)

theorem tmplIsSmall_any (n : Int) (v : Bool) (w : World) (h : decide (97 ≤ n ∧ n ≤ 122) = v) : Calls Try.prog 23 #[.int .u8 n] w fun e w' => e = .returned (.bool v) ∧ w = w' := by
  have H := Lib.hid h; clear h
  by_cases h0 : 97 ≤ n <;> by_cases h1 : n ≤ 122 <;>
  (go_enter Try.func23, Try.ntmps23
   go_wp2
   go_ret
   exact ⟨ret_bool (by rw [← H.out]; simp; omega), rfl⟩)

theorem tmplIsLetter_any (n : Int) (v : Bool) (w : World) (h : isLetterP n = v) : Calls Try.prog 12 #[.int .u8 n] w fun e w' => e = .returned (.bool v) ∧ w = w' := by
  have H := Lib.hid h; clear h
  cases h0 : decide (97 ≤ n ∧ n ≤ 122) <;> by_cases h2 : 65 ≤ n <;> by_cases h3 : n ≤ 90 <;>
  (have H0 := Lib.hid h0
   clear h0
   go_enter Try.func12, Try.ntmps12
   go_wp2_with (go_at_call 23; refine (tmplIsSmall_any n _ _ H0.out).mono ?_; rintro e w1 ⟨rfl, rfl⟩)
   all_goals (go_ret; exact ⟨ret_bool (by have h0 := H0.out; simp only [decide_eq_true_eq, decide_eq_false_iff_not] at h0; rw [← H.out]; unfold isLetterP; first | exact (decide_eq_true (by omega)).symm | (exact (decide_eq_false (by omega)).symm) | (rw [Bool.eq_iff_iff]; simp only [decide_eq_true_eq]; omega)), rfl⟩))

theorem tmplIsDigit_any (n : Int) (v : Bool) (w : World) (h : isDigitP n = v) : Calls Try.prog 13 #[.int .u8 n] w fun e w' => e = .returned (.bool v) ∧ w = w' := by
  have H := Lib.hid h; clear h
  by_cases h0 : 48 ≤ n <;> by_cases h1 : n ≤ 57 <;>
  (go_enter Try.func13, Try.ntmps13
   go_wp2
   go_ret
   exact ⟨ret_bool (by rw [← H.out]; simp [isDigitP]; omega), rfl⟩)

theorem refIsLetter_any (n : Int) (v : Bool) (w : World) (h : isLetterP n = v) : Calls Try.prog 16 #[.int .u8 n] w fun e w' => e = .returned (.bool v) ∧ w = w' := by
  have H := Lib.hid h; clear h
  by_cases h0 : 97 ≤ n <;> by_cases h1 : n ≤ 122 <;> by_cases h2 : 65 ≤ n <;> by_cases h3 : n ≤ 90 <;>
  (go_enter Try.func16, Try.ntmps16
   go_wp2
   go_ret
   exact ⟨ret_bool (by rw [← H.out]; simp [isLetterP]; omega), rfl⟩)

theorem refIsDigit_any (n : Int) (v : Bool) (w : World) (h : isDigitP n = v) : Calls Try.prog 17 #[.int .u8 n] w fun e w' => e = .returned (.bool v) ∧ w = w' := by
  have H := Lib.hid h; clear h
  by_cases h0 : 48 ≤ n <;> by_cases h1 : n ≤ 57 <;>
  (go_enter Try.func17, Try.ntmps17
   go_wp2
   go_ret
   exact ⟨ret_bool (by rw [← H.out]; simp [isDigitP]; omega), rfl⟩)

end Go.Proofs.Ytenhhknmpafpdaa
