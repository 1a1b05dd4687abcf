/-
  Bytes that may not be there: mark.control, mark.byteFault, mastref1.badBytes. Which fields a kind uses: mark.uses.
-/
import Derived.Test.YtphmhhonbkcajaaDoorCheck1
import Derived.Test.YtphmhhonbkcajaaDoorBytes
import Derived.Test.YtphmhhonbkcajaaDoorShelf
namespace Go.Proofs.YtphmhhonbkcajaaDoor
open Go.RowKit Go.Deep

def usesS (k : Int) : ByteArray :=
  if k = 1 ∨ k = 5 then ⟨#[76, 75]⟩
  else if k = 2 ∨ k = 4 ∨ k = 6 ∨ k = 8 ∨ k = 9 ∨ k = 10 ∨ k = 14 ∨ k = 15 then ⟨#[75]⟩
  else if k = 3 then ⟨#[84, 68]⟩
  else if k = 11 ∨ k = 16 then ⟨#[84]⟩
  else if k = 17 then ⟨#[68, 78, 75]⟩
  else if k = 18 then ⟨#[68, 78, 84]⟩
  else ⟨#[]⟩

theorem ret_str {a b : ByteArray} (h : a = b) : Ending.returned (.string a) = .returned (.string b) := by rw [h]

set_option maxHeartbeats 1000000 in
theorem uses_any (k : Int) (w : World) : Calls Tryd.prog 31 #[.int .i64 k] w fun e w' => e = .returned (.string (usesS k)) ∧ w = w' := by
  go_enter Tryd.func31, Tryd.ntmps31
  go_wp2_with fail
  all_goals
    go_ret
    refine ⟨ret_str ?_, rfl⟩
    simp_all [usesS]

/-- does what a kind uses hold a letter -/
def usesC (k : Int) (c : UInt8) : Bool := decide (0 ≤ Lib.indexByte (usesS k).data.toList c)

theorem contains_v (s : ByteArray) (c : UInt8) (v : Bool) (w : World) (h : decide (0 ≤ Lib.indexByte s.data.toList c) = v) :
    Calls Tryd.prog 33 #[.string s, .string ⟨#[c]⟩] w fun e w' => e = .returned (.bool v) ∧ w = w' :=
  (Tryd.strings_Contains_one s c w).mono fun _ _ ⟨he, hw⟩ => ⟨by rw [he, h], hw.symm⟩

theorem indexByte_v (s : ByteArray) (c : Int) (w : World) :
    Calls Tryd.prog 45 #[.string s, .int .u8 c] w fun e w' => e = .returned (.int .i64 (Lib.indexByte s.data.toList c.toNat.toUInt8)) ∧ w = w' :=
  (Tryd.strings_IndexByte s c w).mono fun _ _ ⟨he, hw⟩ => ⟨he, hw.symm⟩

/-- does a byte lie in what is permitted -/
def inB (l : List UInt8) (c : UInt8) : Bool := l.any (· == c)
theorem indexByte_out : ∀ {l : List UInt8} {c : UInt8}, inB l c = false → Lib.indexByte l c = -1
  | [], _, _ => rfl
  | b :: l, c, h => by
    simp only [inB, List.any_cons, Bool.or_eq_false_iff] at h
    rw [Lib.indexByte, h.1, indexByte_out (l := l) h.2]
    rfl
theorem indexByte_in : ∀ {l : List UInt8} {c : UInt8}, inB l c = true → 0 ≤ Lib.indexByte l c
  | [], _, h => by simp [inB] at h
  | b :: l, c, h => by
    rw [Lib.indexByte]
    split
    · omega
    · next hb =>
      simp only [inB, List.any_cons, Bool.or_eq_true] at h
      have := indexByte_in (l := l) (h.resolve_left hb)
      split
      · next he => simp at he; omega
      · omega

theorem indexByte_no (s : ByteArray) (c : UInt8) (n : Int) (w : World) (hn : (c.toNat : Int) = n) (h : inB s.data.toList c = false) :
    Calls Tryd.prog 45 #[.string s, .int .u8 n] w fun e w' => e = .returned (.int .i64 (-1)) ∧ w = w' := by
  subst hn
  exact (indexByte_v s _ w).mono fun _ _ ⟨he, hw⟩ => ⟨by rw [he]; simp [indexByte_out h], hw⟩

def SomeIdx (w : World) (e : Ending) (w' : World) : Prop := ∃ j : Int, 0 ≤ j ∧ e = .returned (.int .i64 j) ∧ w = w'

theorem indexByte_yes (s : ByteArray) (c : UInt8) (n : Int) (w : World) (hn : (c.toNat : Int) = n) (h : inB s.data.toList c = true) :
    Calls Tryd.prog 45 #[.string s, .int .u8 n] w (SomeIdx w) := by
  subst hn
  exact (indexByte_v s _ w).mono fun _ _ ⟨he, hw⟩ => ⟨_, indexByte_in h, by rw [he]; simp, hw⟩

/-- control's answer at a string of permitted bytes -/
def ctlP (p s : List UInt8) : Bool := s.any fun c => decide (c.toNat < 32) && !inB p c

theorem ctlP_at {p s : List UInt8} {i : Nat} {c : UInt8} (h : s[i]? = some c) : ctlP p (s.drop i) = ((decide (c.toNat < 32) && !inB p c) || ctlP p (s.drop (i + 1))) := by
  obtain ⟨hk, rfl⟩ := List.getElem?_eq_some_iff.1 h
  rw [List.drop_eq_getElem_cons hk]
  rfl

theorem byteAt' {s : ByteArray} {k : Nat} (hlt : k < s.size) : s.data.toList[k]? = some s[k] := by
  rw [List.getElem?_eq_getElem (by rw [size_toList]; exact hlt)]
  rfl

set_option maxHeartbeats 1000000 in
theorem control_any (s p : ByteArray) (w : World) (hs : s.size ≤ maxLen) : Calls Tryd.prog 40 #[.string s, .string p] w fun e w' => e = .returned (.bool (ctlP p.data.toList s.data.toList)) ∧ w = w' := by
  unfold maxLen at hs
  go_enter Tryd.func40, Tryd.ntmps40
  go_wp2_with fail
  go_loopw [5] (fun t w2 => ∃ k : Nat, k ≤ s.size ∧ t = .int .i64 k ∧ EqW w2 w ∧ ctlP p.data.toList (s.data.toList.drop k) = ctlP p.data.toList s.data.toList) (fun t _ => s.size - (intOf t).toNat)
  case atStart => exact ⟨0, Nat.zero_le _, rfl, EqW.refl _, rfl⟩
  case round =>
    obtain ⟨k, hk, rfl, hww, hr⟩ := hrel
    unfold EqW at hww
    subst hww
    by_cases hlt : k < s.size
    · rw [ctlP_at (byteAt' hlt)] at hr
      by_cases h32 : (s[k].toNat : Int) < 32
      · cases hin : inB p.data.toList s[k]
        · have HR := Lib.hid (show ctlP p.data.toList s.data.toList = true by rw [← hr, hin]; simp; omega)
          have HI := Lib.hid hin; clear hin hr
          go_wp2_with (go_at_call 45; go_must (refine (indexByte_no _ _ _ _ rfl HI.out).mono ?_); rintro e w1 ⟨rfl, rfl⟩)
          go_ret
          exact ⟨ret_bool HR.out.symm, rfl⟩
        · have HR := Lib.hid (show ctlP p.data.toList (s.data.toList.drop (k + 1)) = ctlP p.data.toList s.data.toList by rw [← hr, hin]; simp)
          have HI := Lib.hid hin; clear hin hr
          go_wp2_with (go_at_call 45; go_must (refine (indexByte_yes _ _ _ _ rfl HI.out).mono ?_); rintro e w1 ⟨j, hj, rfl, rfl⟩)
          go_roundw
          case rel => exact ⟨k + 1, by omega, by go_num, EqW.refl _, HR.out⟩
          case measure => simp [intOf]; omega
      · have HR := Lib.hid (show ctlP p.data.toList (s.data.toList.drop (k + 1)) = ctlP p.data.toList s.data.toList by rw [← hr]; simp; omega)
        clear hr
        go_wp2_with fail
        go_roundw
        case rel => exact ⟨k + 1, by omega, by go_num, EqW.refl _, HR.out⟩
        case measure => simp [intOf]; omega
    · have HR := Lib.hid (show ctlP p.data.toList s.data.toList = false by rw [← hr, List.drop_eq_nil_of_le (by rw [size_toList]; omega)]; rfl)
      clear hr
      go_wp2_with fail
      go_ret
      exact ⟨ret_bool HR.out.symm, rfl⟩

end Go.Proofs.YtphmhhonbkcajaaDoor
