/-
  Letters and digits among bytes.
-/
import Derived.Test.YtelelpjhepcmbaaGreatBase
namespace Go.Proofs.YtelelpjhepcmbaaGreat
open Go.RowKit Go.Deep

def isLetterP (n : Int) : Bool := decide ((97 ≤ n ∧ n ≤ 122) ∨ (65 ≤ n ∧ n ≤ 90))
def isDigitP (n : Int) : Bool := decide (48 ≤ n ∧ n ≤ 57)

theorem shipIsLetter_any (n : Int) (v : Bool) (w : World) (h : isLetterP n = v) : Calls Tryz.prog 14 #[.int .u8 n] w fun e w' => e = .returned (.bool v) ∧ w = w' := by
  have H := Lib.hid h; clear h
  by_cases h0 : 97 ≤ n <;> by_cases h1 : n ≤ 122 <;> by_cases h2 : 65 ≤ n <;> by_cases h3 : n ≤ 90 <;>
  (go_enter Tryz.func14, Tryz.ntmps14
   go_wp2
   go_ret
   exact ⟨ret_bool (by rw [← H.out]; simp [isLetterP]; omega), rfl⟩)

theorem shipIsDigit_any (n : Int) (v : Bool) (w : World) (h : isDigitP n = v) : Calls Tryz.prog 30 #[.int .u8 n] w fun e w' => e = .returned (.bool v) ∧ w = w' := by
  have H := Lib.hid h; clear h
  by_cases h0 : 48 ≤ n <;> by_cases h1 : n ≤ 57 <;>
  (go_enter Tryz.func30, Tryz.ntmps30
   go_wp2
   go_ret
   exact ⟨ret_bool (by rw [← H.out]; simp [isDigitP]; omega), rfl⟩)

theorem refIsLetter_any (n : Int) (v : Bool) (w : World) (h : isLetterP n = v) : Calls Tryz.prog 23 #[.int .u8 n] w fun e w' => e = .returned (.bool v) ∧ w = w' := by
  have H := Lib.hid h; clear h
  by_cases h0 : 97 ≤ n <;> by_cases h1 : n ≤ 122 <;> by_cases h2 : 65 ≤ n <;> by_cases h3 : n ≤ 90 <;>
  (go_enter Tryz.func23, Tryz.ntmps23
   go_wp2
   go_ret
   exact ⟨ret_bool (by rw [← H.out]; simp [isLetterP]; omega), rfl⟩)

theorem refIsDigit_any (n : Int) (v : Bool) (w : World) (h : isDigitP n = v) : Calls Tryz.prog 34 #[.int .u8 n] w fun e w' => e = .returned (.bool v) ∧ w = w' := by
  have H := Lib.hid h; clear h
  by_cases h0 : 48 ≤ n <;> by_cases h1 : n ≤ 57 <;>
  (go_enter Tryz.func34, Tryz.ntmps34
   go_wp2
   go_ret
   exact ⟨ret_bool (by rw [← H.out]; simp [isDigitP]; omega), rfl⟩)

end Go.Proofs.YtelelpjhepcmbaaGreat
