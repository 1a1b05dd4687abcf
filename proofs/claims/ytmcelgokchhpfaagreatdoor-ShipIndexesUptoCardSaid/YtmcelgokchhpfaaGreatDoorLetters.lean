/-
  Letters and digits among bytes.
-/
import Derived.Test.YtmcelgokchhpfaaGreatDoorBase
namespace Go.Proofs.YtmcelgokchhpfaaGreatDoor
open Go.RowKit Go.Deep

def isLetterP (n : Int) : Bool := decide ((97 ≤ n ∧ n ≤ 122) ∨ (65 ≤ n ∧ n ≤ 90))
def isDigitP (n : Int) : Bool := decide (48 ≤ n ∧ n ≤ 57)

theorem shipIsLetter_any (n : Int) (v : Bool) (w : World) (h : isLetterP n = v) : Calls Tryz.prog 25 #[.int .u8 n] w fun e w' => e = .returned (.bool v) ∧ w = w' := by
  have H := Lib.hid h; clear h
  by_cases h0 : 97 ≤ n <;> by_cases h1 : n ≤ 122 <;> by_cases h2 : 65 ≤ n <;> by_cases h3 : n ≤ 90 <;>
  (go_enter Tryz.func25, Tryz.ntmps25
   go_wp2
   go_ret
   exact ⟨ret_bool (by rw [← H.out]; simp [isLetterP]; omega), rfl⟩)

theorem shipIsDigit_any (n : Int) (v : Bool) (w : World) (h : isDigitP n = v) : Calls Tryz.prog 26 #[.int .u8 n] w fun e w' => e = .returned (.bool v) ∧ w = w' := by
  have H := Lib.hid h; clear h
  by_cases h0 : 48 ≤ n <;> by_cases h1 : n ≤ 57 <;>
  (go_enter Tryz.func26, Tryz.ntmps26
   go_wp2
   go_ret
   exact ⟨ret_bool (by rw [← H.out]; simp [isDigitP]; omega), rfl⟩)

theorem refIsLetter_any (n : Int) (v : Bool) (w : World) (h : isLetterP n = v) : Calls Tryz.prog 38 #[.int .u8 n] w fun e w' => e = .returned (.bool v) ∧ w = w' := by
  have H := Lib.hid h; clear h
  by_cases h0 : 97 ≤ n <;> by_cases h1 : n ≤ 122 <;> by_cases h2 : 65 ≤ n <;> by_cases h3 : n ≤ 90 <;>
  (go_enter Tryz.func38, Tryz.ntmps38
   go_wp2
   go_ret
   exact ⟨ret_bool (by rw [← H.out]; simp [isLetterP]; omega), rfl⟩)

theorem refIsDigit_any (n : Int) (v : Bool) (w : World) (h : isDigitP n = v) : Calls Tryz.prog 39 #[.int .u8 n] w fun e w' => e = .returned (.bool v) ∧ w = w' := by
  have H := Lib.hid h; clear h
  by_cases h0 : 48 ≤ n <;> by_cases h1 : n ≤ 57 <;>
  (go_enter Tryz.func39, Tryz.ntmps39
   go_wp2
   go_ret
   exact ⟨ret_bool (by rw [← H.out]; simp [isDigitP]; omega), rfl⟩)

end Go.Proofs.YtmcelgokchhpfaaGreatDoor
