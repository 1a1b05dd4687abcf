/-
  Letters and digits among bytes.
-/
import Derived.Test.YtbhildmalcfhiaaGreatDoorBase
namespace Go.Proofs.YtbhildmalcfhiaaGreatDoor
open Go.RowKit Go.Deep

def isLetterP (n : Int) : Bool := decide ((97 ≤ n ∧ n ≤ 122) ∨ (65 ≤ n ∧ n ≤ 90))
def isDigitP (n : Int) : Bool := decide (48 ≤ n ∧ n ≤ 57)

theorem shipIsLetter_any (n : Int) (v : Bool) (w : World) (h : isLetterP n = v) : Calls Tryz.prog 80 #[.int .u8 n] w fun e w' => e = .returned (.bool v) ∧ w = w' := by
  have H := Lib.hid h; clear h
  by_cases h0 : 97 ≤ n <;> by_cases h1 : n ≤ 122 <;> by_cases h2 : 65 ≤ n <;> by_cases h3 : n ≤ 90 <;>
  (go_enter Tryz.func80, Tryz.ntmps80
   go_wp2
   go_ret
   exact ⟨ret_bool (by rw [← H.out]; simp [isLetterP]; omega), rfl⟩)

theorem shipIsDigit_any (n : Int) (v : Bool) (w : World) (h : isDigitP n = v) : Calls Tryz.prog 124 #[.int .u8 n] w fun e w' => e = .returned (.bool v) ∧ w = w' := by
  have H := Lib.hid h; clear h
  by_cases h0 : 48 ≤ n <;> by_cases h1 : n ≤ 57 <;>
  (go_enter Tryz.func124, Tryz.ntmps124
   go_wp2
   go_ret
   exact ⟨ret_bool (by rw [← H.out]; simp [isDigitP]; omega), rfl⟩)

theorem refIsLetter_any (n : Int) (v : Bool) (w : World) (h : isLetterP n = v) : Calls Tryz.prog 88 #[.int .u8 n] w fun e w' => e = .returned (.bool v) ∧ w = w' := by
  have H := Lib.hid h; clear h
  by_cases h0 : 97 ≤ n <;> by_cases h1 : n ≤ 122 <;> by_cases h2 : 65 ≤ n <;> by_cases h3 : n ≤ 90 <;>
  (go_enter Tryz.func88, Tryz.ntmps88
   go_wp2
   go_ret
   exact ⟨ret_bool (by rw [← H.out]; simp [isLetterP]; omega), rfl⟩)

theorem refIsDigit_any (n : Int) (v : Bool) (w : World) (h : isDigitP n = v) : Calls Tryz.prog 128 #[.int .u8 n] w fun e w' => e = .returned (.bool v) ∧ w = w' := by
  have H := Lib.hid h; clear h
  by_cases h0 : 48 ≤ n <;> by_cases h1 : n ≤ 57 <;>
  (go_enter Tryz.func128, Tryz.ntmps128
   go_wp2
   go_ret
   exact ⟨ret_bool (by rw [← H.out]; simp [isDigitP]; omega), rfl⟩)

end Go.Proofs.YtbhildmalcfhiaaGreatDoor
