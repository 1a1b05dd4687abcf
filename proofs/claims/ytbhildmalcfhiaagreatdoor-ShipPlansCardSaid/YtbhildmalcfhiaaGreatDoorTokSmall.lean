/-
  Tokens: the small functions of the scanner: kinds of bytes, upTo, begins, chars, name.
-/
import Derived.Test.YtbhildmalcfhiaaGreatDoorTokOwn
import Derived.Test.YtbhildmalcfhiaaGreatDoorShelf
namespace Go.Proofs.YtbhildmalcfhiaaGreatDoor
open Go.RowKit Go.Deep

theorem tagB_q (n : Int) (v : Bool) (w : World) (h : tagN n = v) : Calls Tryz.prog 83 #[.int .u8 n] w fun e w' => e = .returned (.bool v) ∧ w = w' := by
  obtain ⟨a, ha⟩ : ∃ a, isLetterP n = a := ⟨_, rfl⟩
  obtain ⟨d, hd⟩ : ∃ a, isDigitP n = a := ⟨_, rfl⟩
  obtain ⟨b, hb⟩ : ∃ a, (n == 45) = a := ⟨_, rfl⟩
  have HV := Lib.hid (show v = (a || d || b) by rw [← h, tagN, ha, hd, hb])
  have HA := Lib.hid ha
  have HD := Lib.hid hd
  clear ha hd h
  cases a <;> cases d <;> cases b <;>
  (go_enter Tryz.func83, Tryz.ntmps83
   go_wp2_with (first | (go_at_call 80; go_must (refine (shipIsLetter_any n _ _ HA.out).mono ?_); rintro e w1 ⟨rfl, rfl⟩) | (go_at_call 124; go_must (refine (shipIsDigit_any n _ _ HD.out).mono ?_); rintro e w1 ⟨rfl, rfl⟩))
   go_ret
   exact ⟨ret_bool (by rw [HV.out]; first | rfl | simp_all), rfl⟩)
theorem attB_q (n : Int) (v : Bool) (w : World) (h : attN n = v) : Calls Tryz.prog 125 #[.int .u8 n] w fun e w' => e = .returned (.bool v) ∧ w = w' := by
  obtain ⟨a, ha⟩ : ∃ a, tagN n = a := ⟨_, rfl⟩
  obtain ⟨b1, h1⟩ : ∃ a, (n == 95) = a := ⟨_, rfl⟩
  obtain ⟨b2, h2⟩ : ∃ a, (n == 58) = a := ⟨_, rfl⟩
  obtain ⟨b3, h3⟩ : ∃ a, (n == 46) = a := ⟨_, rfl⟩
  have HV := Lib.hid (show v = (a || b1 || b2 || b3) by rw [← h, attN, ha, h1, h2, h3])
  have HA := Lib.hid ha
  clear ha h
  cases a <;> cases b1 <;> cases b2 <;> cases b3 <;>
  (go_enter Tryz.func125, Tryz.ntmps125
   go_wp2_with (go_at_call 83; go_must (refine (tagB_q n _ _ HA.out).mono ?_); rintro e w1 ⟨rfl, rfl⟩)
   go_ret
   exact ⟨ret_bool (by rw [HV.out]; first | rfl | simp_all), rfl⟩)
theorem space_q (n : Int) (v : Bool) (w : World) (h : gapN n = v) : Calls Tryz.prog 162 #[.int .u8 n] w fun e w' => e = .returned (.bool v) ∧ w = w' := by
  obtain ⟨b1, h1⟩ : ∃ a, (n == 32) = a := ⟨_, rfl⟩
  obtain ⟨b2, h2⟩ : ∃ a, (n == 9) = a := ⟨_, rfl⟩
  obtain ⟨b3, h3⟩ : ∃ a, (n == 10) = a := ⟨_, rfl⟩
  have HV := Lib.hid (show v = (b1 || b2 || b3) by rw [← h, gapN, h1, h2, h3])
  clear h
  cases b1 <;> cases b2 <;> cases b3 <;>
  (go_enter Tryz.func162, Tryz.ntmps162
   go_wp2_with fail
   go_ret
   exact ⟨ret_bool (by rw [HV.out]; first | rfl | simp_all), rfl⟩)
theorem tagR_q (n : Int) (v : Bool) (w : World) (h : tagN n = v) : Calls Tryz.prog 89 #[.int .u8 n] w fun e w' => e = .returned (.bool v) ∧ w = w' := by
  obtain ⟨a, ha⟩ : ∃ a, isLetterP n = a := ⟨_, rfl⟩
  obtain ⟨d, hd⟩ : ∃ a, isDigitP n = a := ⟨_, rfl⟩
  obtain ⟨b, hb⟩ : ∃ a, (n == 45) = a := ⟨_, rfl⟩
  have HV := Lib.hid (show v = (a || d || b) by rw [← h, tagN, ha, hd, hb])
  have HA := Lib.hid ha
  have HD := Lib.hid hd
  clear ha hd h
  cases a <;> cases d <;> cases b <;>
  (go_enter Tryz.func89, Tryz.ntmps89
   go_wp2_with (first | (go_at_call 88; go_must (refine (refIsLetter_any n _ _ HA.out).mono ?_); rintro e w1 ⟨rfl, rfl⟩) | (go_at_call 128; go_must (refine (refIsDigit_any n _ _ HD.out).mono ?_); rintro e w1 ⟨rfl, rfl⟩))
   go_ret
   exact ⟨ret_bool (by rw [HV.out]; first | rfl | simp_all), rfl⟩)
theorem attR_q (n : Int) (v : Bool) (w : World) (h : attN n = v) : Calls Tryz.prog 129 #[.int .u8 n] w fun e w' => e = .returned (.bool v) ∧ w = w' := by
  obtain ⟨a, ha⟩ : ∃ a, isLetterP n = a := ⟨_, rfl⟩
  obtain ⟨d, hd⟩ : ∃ a, isDigitP n = a := ⟨_, rfl⟩
  obtain ⟨b, hb⟩ : ∃ a, (n == 45) = a := ⟨_, rfl⟩
  obtain ⟨b1, h1⟩ : ∃ a, (n == 95) = a := ⟨_, rfl⟩
  obtain ⟨b2, h2⟩ : ∃ a, (n == 58) = a := ⟨_, rfl⟩
  obtain ⟨b3, h3⟩ : ∃ a, (n == 46) = a := ⟨_, rfl⟩
  have HV := Lib.hid (show v = (a || d || b || b1 || b2 || b3) by rw [← h, attN, tagN, ha, hd, hb, h1, h2, h3])
  have HA := Lib.hid ha
  have HD := Lib.hid hd
  clear ha hd h
  cases a <;> cases d <;> cases b <;> cases b1 <;> cases b2 <;> cases b3 <;>
  (go_enter Tryz.func129, Tryz.ntmps129
   go_wp2_with (first | (go_at_call 88; go_must (refine (refIsLetter_any n _ _ HA.out).mono ?_); rintro e w1 ⟨rfl, rfl⟩) | (go_at_call 128; go_must (refine (refIsDigit_any n _ _ HD.out).mono ?_); rintro e w1 ⟨rfl, rfl⟩))
   go_ret
   exact ⟨ret_bool (by rw [HV.out]; first | rfl | simp_all), rfl⟩)
theorem gapR_q (n : Int) (v : Bool) (w : World) (h : gapN n = v) : Calls Tryz.prog 131 #[.int .u8 n] w fun e w' => e = .returned (.bool v) ∧ w = w' := by
  obtain ⟨b1, h1⟩ : ∃ a, (n == 32) = a := ⟨_, rfl⟩
  obtain ⟨b2, h2⟩ : ∃ a, (n == 9) = a := ⟨_, rfl⟩
  obtain ⟨b3, h3⟩ : ∃ a, (n == 10) = a := ⟨_, rfl⟩
  have HV := Lib.hid (show v = (b1 || b2 || b3) by rw [← h, gapN, h1, h2, h3])
  clear h
  cases b1 <;> cases b2 <;> cases b3 <;>
  (go_enter Tryz.func131, Tryz.ntmps131
   go_wp2_with fail
   go_ret
   exact ⟨ret_bool (by rw [HV.out]; first | rfl | simp_all), rfl⟩)
theorem isRaw_q (s : ByteArray) (v : Bool) (w : World) (h : rawB s = v) : Calls Tryz.prog 85 #[.string s] w fun e w' => e = .returned (.bool v) ∧ w = w' := by
  obtain ⟨b1, h1⟩ : ∃ a, (s.toList == [115, 99, 114, 105, 112, 116]) = a := ⟨_, rfl⟩
  obtain ⟨b2, h2⟩ : ∃ a, (s.toList == [115, 116, 121, 108, 101]) = a := ⟨_, rfl⟩
  obtain ⟨b3, h3⟩ : ∃ a, (s.toList == [116, 105, 116, 108, 101]) = a := ⟨_, rfl⟩
  obtain ⟨b4, h4⟩ : ∃ a, (s.toList == [116, 101, 120, 116, 97, 114, 101, 97]) = a := ⟨_, rfl⟩
  have HV := Lib.hid (show v = (b1 || b2 || b3 || b4) by rw [← h, rawB, h1, h2, h3, h4])
  clear h
  cases b1 <;> cases b2 <;> cases b3 <;> cases b4 <;>
  (go_enter Tryz.func85, Tryz.ntmps85
   go_wp2_with fail
   go_ret
   exact ⟨ret_bool (by rw [HV.out]; first | rfl | simp_all), rfl⟩)

end Go.Proofs.YtbhildmalcfhiaaGreatDoor
