/-
  Blanks, trimming, lines: the small functions of mark and mastref1 on strings.
-/
import Derived.Test.YtlganccpgchmeaaDoorFitPlain
import Derived.Test.YtlganccpgchmeaaDoorShelf
import Derived.Test.YtlganccpgchmeaaDoorRowOps
import Derived.Shelf.Strings.SlTrimAscii
import Derived.Laws.Strings2
import Derived.Deep.DeepMust
import Derived.BigGuardPart
namespace Go.Proofs.YtlganccpgchmeaaDoor
open Go.RowKit Go.Deep

theorem isBlank_q (c : UInt8) (v : Bool) (w : World) (h : blkB c = v) : Calls Tryd.prog 82 #[.int .u8 c.toNat] w fun e w' => e = .returned (.bool v) ∧ w' = w := by
  subst h
  by_cases h1 : c = 32
  · subst h1
    go_enter Tryd.func82, Tryd.ntmps82
    go_wp2_with fail
    go_ret
    exact ⟨rfl, rfl⟩
  by_cases h2 : c = 9
  · subst h2
    go_enter Tryd.func82, Tryd.ntmps82
    go_wp2_with fail
    go_ret
    exact ⟨rfl, rfl⟩
  have t1 : ((c.toNat : Int) == 32) = false := by
    rw [beq_eq_false_iff_ne]; intro e; exact h1 (UInt8.toNat_inj.1 (by have : (32 : UInt8).toNat = 32 := rfl; omega))
  have t2 : ((c.toNat : Int) == 9) = false := by
    rw [beq_eq_false_iff_ne]; intro e; exact h2 (UInt8.toNat_inj.1 (by have : (9 : UInt8).toNat = 9 := rfl; omega))
  have HB := Lib.hid (show blkB c = false by simp [blkB, h1, h2])
  clear h1 h2
  go_enter Tryd.func82, Tryd.ntmps82
  go_wp2_with fail
  go_ret
  exact ⟨ret_bool HB.out.symm, rfl⟩
theorem isBlank_r (c : UInt8) (v : Bool) (w : World) (h : blkB c = v) : Calls Tryd.prog 84 #[.int .u8 c.toNat] w fun e w' => e = .returned (.bool v) ∧ w' = w := by
  subst h
  by_cases h1 : c = 32
  · subst h1
    go_enter Tryd.func84, Tryd.ntmps84
    go_wp2_with fail
    go_ret
    exact ⟨rfl, rfl⟩
  by_cases h2 : c = 9
  · subst h2
    go_enter Tryd.func84, Tryd.ntmps84
    go_wp2_with fail
    go_ret
    exact ⟨rfl, rfl⟩
  have t1 : ((c.toNat : Int) == 32) = false := by
    rw [beq_eq_false_iff_ne]; intro e; exact h1 (UInt8.toNat_inj.1 (by have : (32 : UInt8).toNat = 32 := rfl; omega))
  have t2 : ((c.toNat : Int) == 9) = false := by
    rw [beq_eq_false_iff_ne]; intro e; exact h2 (UInt8.toNat_inj.1 (by have : (9 : UInt8).toNat = 9 := rfl; omega))
  have HB := Lib.hid (show blkB c = false by simp [blkB, h1, h2])
  clear h1 h2
  go_enter Tryd.func84, Tryd.ntmps84
  go_wp2_with fail
  go_ret
  exact ⟨ret_bool HB.out.symm, rfl⟩

def sizeV : Value → Nat | .string z => z.size | _ => 0
/-- a string's first and last byte -/
theorem first_form {z : ByteArray} (h : 0 < z.size) : ∃ c, z[0]'h = c ∧ z.data.toList = c :: (z.extract 1 z.size).data.toList := by
  refine ⟨_, rfl, ?_⟩
  have h2 : 0 < z.data.toList.length := by rw [size_toList]; exact h
  cases hl : z.data.toList with
  | nil => rw [hl] at h2; simp at h2
  | cons a r =>
    have e1 : (z.extract 1 z.size).data.toList = r := by
      rw [ByteArray.data_extract, Array.toList_extract, hl]
      simp only [List.extract, List.drop_succ_cons, List.drop_zero]
      rw [List.take_of_length_le]
      have := size_toList z; rw [hl, List.length_cons] at this; omega
    have e2 : z[0]'h = a := by
      have : z.data.toList[0]'h2 = a := by simp [hl]
      rw [← this, Array.getElem_toList]; rfl
    rw [e1, e2]
theorem last_form {z : ByteArray} {m : Nat} (h : z.size = m + 1) (hm : m < z.size) : ∃ c, z[m]'hm = c ∧ z.data.toList = (z.extract 0 m).data.toList ++ [c] := by
  refine ⟨_, rfl, ?_⟩
  have hl : z.data.toList.length = m + 1 := by rw [size_toList]; exact h
  have e1 : (z.extract 0 m).data.toList = z.data.toList.take m := by
    rw [ByteArray.data_extract, Array.toList_extract]
    simp [List.extract]
  have e2 : z[m]'hm = z.data.toList[m]'(by omega) := by rw [Array.getElem_toList]; rfl
  rw [e1, e2, List.take_append_getElem, List.take_of_length_le (by omega)]
theorem nonempty_forms {z : ByteArray} (h : 0 < z.size) : (z.toList == []) = false ∧ (z.toList != []) = true ∧ z.toList.isEmpty = false ∧ ¬ z.toList = [] := by
  rw [Go.ByteArray.toList_eq]
  have h2 : 0 < z.data.toList.length := by rw [size_toList]; exact h
  cases hl : z.data.toList with
  | nil => rw [hl] at h2; simp at h2
  | cons a r => simp
theorem empty_lit {z : ByteArray} (h : ¬ 0 < z.size) : z = ⟨#[]⟩ := by
  apply Go.WideShapes.bytes_inj
  show z.data.toList = []
  have h2 : z.data.toList.length = 0 := by rw [size_toList]; omega
  exact List.length_eq_zero_iff.1 h2

set_option maxRecDepth 100000 in
set_option maxHeartbeats 2000000 in
theorem trim_q (s : ByteArray) (w : World) (hs : s.size ≤ 1073741824) : Calls Tryd.prog 77 #[.string s] w fun e w' => (∃ z : ByteArray, e = .returned (.string z) ∧ z.data.toList = markStrip s.data.toList) ∧ w' = w := by
  go_enter Tryd.func77, Tryd.ntmps77
  go_wp2_with fail
  go_loopw [0] (fun t0 wr => ∃ z : ByteArray, t0 = .string z ∧ z.size ≤ s.size ∧ Hid (stripL z.data.toList = stripL s.data.toList) ∧ wr = w) (fun t _ => sizeV t)
  case atStart => exact ⟨s, rfl, Nat.le_refl _, rfl, rfl⟩
  case round =>
    obtain ⟨z, rfl, hzs, HZ, rfl⟩ := hrel
    by_cases h0 : 0 < z.size
    · obtain ⟨c, hc, hl⟩ := first_form h0
      obtain ⟨f1, f2, f3, f4⟩ := nonempty_forms h0
      have HL := Lib.hid hl
      have hI1 : (1 : Int) ≤ (z.size : Int) := by omega
      obtain ⟨y, hy⟩ : ∃ y, z.extract 1 z.size = y := ⟨_, rfl⟩
      have hys : y.size = z.size - 1 := by rw [← hy, ByteArray.size_extract]; omega
      rw [hy] at HL
      have HYs := Lib.hid hys
      clear hl hys
      cases hb : blkB c with
      | true =>
        have HZ2 := Lib.hid (show stripL y.data.toList = stripL s.data.toList by rw [← HZ.out, HL.out, stripL_step hb])
        have HB := Lib.hid hb
        clear hb
        go_wp2_with (go_at_call 82; go_must (refine (isBlank_q c true _ HB.out).mono ?_); rintro e w1 ⟨rfl, hw1⟩; obtain rfl := hw1.symm)
        go_roundw
        case rel => exact ⟨y, rfl, by have := HYs.out; omega, HZ2, by first | rfl | trivial⟩
        case measure => simp only [sizeV]; have := HYs.out; omega
      | false =>
        have HZ2 := Lib.hid (show z.data.toList = stripL s.data.toList by rw [← HZ.out]; exact (stripL_of (by rw [HL.out]; exact hb)).symm)
        have HB := Lib.hid hb
        clear hb hy hI1 HL
        go_wp2_with (go_at_call 82; go_must (refine (isBlank_q c false _ HB.out).mono ?_); rintro e w1 ⟨rfl, hw1⟩; obtain rfl := hw1.symm)
        clear hc f1 f2 f3 f4 HB h0
        go_loopw [0] (fun t0 wr2 => ∃ z2 : ByteArray, t0 = .string z2 ∧ z2.size ≤ s.size ∧ Hid (stripR z2.data.toList = markStrip s.data.toList) ∧ wr2 = wr) (fun t _ => sizeV t)
        case atStart => exact ⟨z, rfl, by first | exact hzs | simp, Lib.hid (by unfold markStrip; rw [← HZ2.out]), rfl⟩
        case round =>
          obtain ⟨z2, rfl, hzs2, HR, rfl⟩ := hrel
          by_cases h02 : 0 < z2.size
          · obtain ⟨m, hm⟩ : ∃ m, z2.size = m + 1 := ⟨z2.size - 1, by omega⟩
            have hm2 : m < z2.size := by omega
            obtain ⟨d, hd, hl⟩ := last_form hm hm2
            obtain ⟨f1, f2, f3, f4⟩ := nonempty_forms h02
            have HL := Lib.hid hl
            have hI2 : (m : Int) ≤ (z2.size : Int) := by omega
            have hm1 : z2.size - 1 = m := by omega
            obtain ⟨y, hy⟩ : ∃ y, z2.extract 0 m = y := ⟨_, rfl⟩
            have hys : y.size = m := by rw [← hy, ByteArray.size_extract]; omega
            rw [hy] at HL
            have HYs := Lib.hid hys
            clear hl hys hm1
            cases hb : blkB d with
            | true =>
              have HZ3 := Lib.hid (show stripR y.data.toList = markStrip s.data.toList by rw [← HR.out, HL.out, stripR_step hb])
              have HB := Lib.hid hb
              clear hb
              go_wp2_with (go_at_call 82; go_must (refine (isBlank_q d true _ HB.out).mono ?_); rintro e w1 ⟨rfl, hw1⟩; obtain rfl := hw1.symm)
              go_roundw
              case rel => exact ⟨y, rfl, by have := HYs.out; omega, HZ3, by first | rfl | trivial⟩
              case measure => simp only [sizeV]; have := HYs.out; omega
            | false =>
              have HZ3 := Lib.hid (show z2.data.toList = markStrip s.data.toList by rw [← HR.out]; exact (stripR_of (by rw [HL.out, ltB_snoc]; exact hb)).symm)
              have HB := Lib.hid hb
              clear hb hy hI2 HL
              go_wp2_with (go_at_call 82; go_must (refine (isBlank_q d false _ HB.out).mono ?_); rintro e w1 ⟨rfl, hw1⟩; obtain rfl := hw1.symm)
              go_ret
              exact ⟨⟨z2, rfl, HZ3.out⟩, rfl⟩
          · obtain rfl := empty_lit h02
            have HZ3 := Lib.hid (show [] = markStrip s.data.toList from HR.out)
            go_wp2_with fail
            go_ret
            exact ⟨⟨_, rfl, HZ3.out⟩, rfl⟩
    · obtain rfl := empty_lit h0
      have HZ2 := Lib.hid (show (⟨#[]⟩ : ByteArray).data.toList = stripL s.data.toList from HZ.out)
      clear h0
      go_wp2_with fail
      go_loopw [0] (fun t0 wr2 => ∃ z2 : ByteArray, t0 = .string z2 ∧ z2.size ≤ s.size ∧ Hid (stripR z2.data.toList = markStrip s.data.toList) ∧ wr2 = wr) (fun t _ => sizeV t)
      case atStart => exact ⟨⟨#[]⟩, rfl, by first | exact hzs | simp, Lib.hid (by unfold markStrip; rw [← HZ2.out]), rfl⟩
      case round =>
        obtain ⟨z2, rfl, hzs2, HR, rfl⟩ := hrel
        by_cases h02 : 0 < z2.size
        · obtain ⟨m, hm⟩ : ∃ m, z2.size = m + 1 := ⟨z2.size - 1, by omega⟩
          have hm2 : m < z2.size := by omega
          obtain ⟨d, hd, hl⟩ := last_form hm hm2
          obtain ⟨f1, f2, f3, f4⟩ := nonempty_forms h02
          have HL := Lib.hid hl
          have hI2 : (m : Int) ≤ (z2.size : Int) := by omega
          have hm1 : z2.size - 1 = m := by omega
          obtain ⟨y, hy⟩ : ∃ y, z2.extract 0 m = y := ⟨_, rfl⟩
          have hys : y.size = m := by rw [← hy, ByteArray.size_extract]; omega
          rw [hy] at HL
          have HYs := Lib.hid hys
          clear hl hys hm1
          cases hb : blkB d with
          | true =>
            have HZ3 := Lib.hid (show stripR y.data.toList = markStrip s.data.toList by rw [← HR.out, HL.out, stripR_step hb])
            have HB := Lib.hid hb
            clear hb
            go_wp2_with (go_at_call 82; go_must (refine (isBlank_q d true _ HB.out).mono ?_); rintro e w1 ⟨rfl, hw1⟩; obtain rfl := hw1.symm)
            go_roundw
            case rel => exact ⟨y, rfl, by have := HYs.out; omega, HZ3, by first | rfl | trivial⟩
            case measure => simp only [sizeV]; have := HYs.out; omega
          | false =>
            have HZ3 := Lib.hid (show z2.data.toList = markStrip s.data.toList by rw [← HR.out]; exact (stripR_of (by rw [HL.out, ltB_snoc]; exact hb)).symm)
            have HB := Lib.hid hb
            clear hb hy hI2 HL
            go_wp2_with (go_at_call 82; go_must (refine (isBlank_q d false _ HB.out).mono ?_); rintro e w1 ⟨rfl, hw1⟩; obtain rfl := hw1.symm)
            go_ret
            exact ⟨⟨z2, rfl, HZ3.out⟩, rfl⟩
        · obtain rfl := empty_lit h02
          have HZ3 := Lib.hid (show [] = markStrip s.data.toList from HR.out)
          go_wp2_with fail
          go_ret
          exact ⟨⟨_, rfl, HZ3.out⟩, rfl⟩

end Go.Proofs.YtlganccpgchmeaaDoor
