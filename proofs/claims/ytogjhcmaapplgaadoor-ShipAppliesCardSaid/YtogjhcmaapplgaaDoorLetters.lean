/-
  Letters and digits among bytes.
-/
import Derived.Test.YtogjhcmaapplgaaDoorBase
namespace Go.Proofs.YtogjhcmaapplgaaDoor
open Go.RowKit Go.Deep

def isLetterP (n : Int) : Bool := decide ((97 ≤ n ∧ n ≤ 122) ∨ (65 ≤ n ∧ n ≤ 90))
def isDigitP (n : Int) : Bool := decide (48 ≤ n ∧ n ≤ 57)

theorem shipIsDigit_any (n : Int) (v : Bool) (w : World) (h : isDigitP n = v) : Calls Tryd.prog 45 #[.int .u8 n] w fun e w' => e = .returned (.bool v) ∧ w = w' := by
  have H := Lib.hid h; clear h
  by_cases h0 : 48 ≤ n <;> by_cases h1 : n ≤ 57 <;>
  (go_enter Tryd.func45, Tryd.ntmps45
   go_wp2
   go_ret
   exact ⟨ret_bool (by rw [← H.out]; simp [isDigitP]; omega), rfl⟩)

theorem refIsDigit_any (n : Int) (v : Bool) (w : World) (h : isDigitP n = v) : Calls Tryd.prog 56 #[.int .u8 n] w fun e w' => e = .returned (.bool v) ∧ w = w' := by
  have H := Lib.hid h; clear h
  by_cases h0 : 48 ≤ n <;> by_cases h1 : n ≤ 57 <;>
  (go_enter Tryd.func56, Tryd.ntmps56
   go_wp2
   go_ret
   exact ⟨ret_bool (by rw [← H.out]; simp [isDigitP]; omega), rfl⟩)

end Go.Proofs.YtogjhcmaapplgaaDoor
