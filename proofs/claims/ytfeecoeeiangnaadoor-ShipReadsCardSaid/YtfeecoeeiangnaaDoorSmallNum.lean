/-
  Numbers of at most nine digits: ship.small, mastref1.natural.
-/
import Derived.Test.YtfeecoeeiangnaaDoorIdxPlain
import Derived.Test.YtfeecoeeiangnaaDoorLetters
import Derived.BigQuiet
namespace Go.Proofs.YtfeecoeeiangnaaDoor
open Go.RowKit Go.Deep

def decV (l : List UInt8) : Nat := l.foldl (fun n c => 10 * n + (c.toNat - 48)) 0
def digitsB (l : List UInt8) : Bool := l.all fun c => isDigitP (c.toNat : Int)
/-- is it a number's form, but for its digits -/
def numForm (l : List UInt8) : Bool := decide (1 ≤ l.length) && decide (l.length ≤ 9) && !(l.head? == some 48 && decide (1 < l.length))
def numB (l : List UInt8) : Bool := numForm l && digitsB l
def numV (l : List UInt8) : Nat := if numB l = true then decV l else 0
theorem decV_succ {l : List UInt8} {k : Nat} {c : UInt8} (h : l[k]? = some c) : decV (l.take (k + 1)) = 10 * decV (l.take k) + (c.toNat - 48) := by
  obtain ⟨hk, rfl⟩ := List.getElem?_eq_some_iff.1 h
  rw [List.take_succ_eq_append_getElem hk, decV, List.foldl_append]
  rfl
theorem decV_lt {l : List UInt8} : ∀ (k : Nat), k ≤ l.length → digitsB (l.take k) = true → decV (l.take k) < 10 ^ k
  | 0, _, _ => by simp [decV]
  | k + 1, hk, hd => by
    have hlt : k < l.length := hk
    have h : l[k]? = some l[k] := List.getElem?_eq_getElem hlt
    have e : l.take (k + 1) = l.take k ++ [l[k]] := List.take_succ_eq_append_getElem hlt
    rw [e, digitsB, List.all_append, Bool.and_eq_true] at hd
    have ih := decV_lt k (by omega) hd.1
    have hd2 : isDigitP (l[k].toNat : Int) = true := by simpa using hd.2
    simp only [isDigitP, decide_eq_true_eq] at hd2
    rw [decV_succ h, Nat.pow_succ]
    omega
theorem digits_succ {l : List UInt8} {k : Nat} {c : UInt8} (h : l[k]? = some c) (hd : digitsB (l.take k) = true) (hc : isDigitP (c.toNat : Int) = true) : digitsB (l.take (k + 1)) = true := by
  obtain ⟨hk, rfl⟩ := List.getElem?_eq_some_iff.1 h
  rw [List.take_succ_eq_append_getElem hk, digitsB, List.all_append, Bool.and_eq_true]
  exact ⟨hd, by simpa using hc⟩
theorem num_bad {l : List UInt8} {k : Nat} {c : UInt8} (h : l[k]? = some c) (hc : isDigitP (c.toNat : Int) = false) : numB l = false := by
  have : digitsB l = false := by
    rw [digitsB, List.all_eq_false]
    exact ⟨c, List.mem_of_getElem? h, by simp [hc]⟩
  rw [numB, this, Bool.and_false]
theorem num_form {l : List UInt8} (h : numForm l = false) : numB l = false := by rw [numB, h]; rfl
theorem ret_num {l : List UInt8} {n : Int} {b : Bool} (hn : ((numV l : Nat) : Int) = n) (hb : numB l = b) : Ending.returned (.tuple #[.int .i64 n, .bool b]) = .returned (.tuple #[.int .i64 (numV l : Nat), .bool (numB l)]) := by rw [hn, hb]
theorem numV_no {l : List UInt8} (h : numB l = false) : ((numV l : Nat) : Int) = 0 := by rw [numV, h]; rfl
theorem numV_yes {l : List UInt8} (h : numB l = true) : numV l = decV l := by rw [numV, h]; rfl
theorem form_empty {s : ByteArray} (h : s.size = 0) : numForm s.data.toList = false := by
  have : s.data.toList = [] := List.eq_nil_of_length_eq_zero (by rw [size_toList]; exact h)
  rw [this]; rfl
theorem form_long {s : ByteArray} (h : 9 < s.size) : numForm s.data.toList = false := by
  rw [numForm, show decide (s.data.toList.length ≤ 9) = false by rw [size_toList]; simpa using h]; simp
theorem form_zero {s : ByteArray} (h : 1 < s.size) (h0 : s.data.toList[0]? = some 48) : numForm s.data.toList = false := by
  have e : s.data.toList.head? = some 48 := by rw [List.head?_eq_getElem?]; exact h0
  rw [numForm, e, show decide (1 < s.data.toList.length) = true by rw [size_toList]; simpa using h]; simp
theorem form_ok {s : ByteArray} (h1 : 1 ≤ s.size) (h9 : s.size ≤ 9) (h : s.data.toList[0]? ≠ some 48 ∨ s.size = 1) : numForm s.data.toList = true := by
  simp only [numForm, size_toList, h1, h9, decide_true, Bool.true_and, Bool.not_eq_true', Bool.and_eq_false_iff, decide_eq_false_iff_not, beq_eq_false_iff_ne]
  rcases h with h | h
  · exact Or.inl (by rw [List.head?_eq_getElem?]; exact h)
  · exact Or.inr (by omega)
theorem one_zero {s : ByteArray} (h1 : s.size = 1) (h0 : s.data.toList[0]? = some 48) : (s.toList == (⟨#[48]⟩ : ByteArray).toList) = true := by
  rw [Go.ByteArray.toList_eq, Go.ByteArray.toList_eq]
  match hl : s.data.toList with
  | [] => rw [hl] at h0; cases h0
  | [a] => rw [hl] at h0; cases h0; rfl
  | a :: b :: r => have := size_toList s; rw [hl] at this; simp at this; omega
theorem byte48 {c : UInt8} (h : ((c.toNat : Int) == 48) = true) : some c = some (48 : UInt8) := by
  have h2 : (c.toNat : Int) = 48 := by simpa using h
  congr 1
  apply UInt8.toNat_inj.1
  show c.toNat = 48
  omega
theorem not48 {c : UInt8} (h : ((c.toNat : Int) == 48) = false) : some c ≠ some (48 : UInt8) := by
  rintro ⟨rfl⟩
  exact absurd h (by decide)
theorem not_one_zero {s : ByteArray} (h1 : ¬ s.size = 1) : (s.toList == (⟨#[48]⟩ : ByteArray).toList) = false := by
  rw [beq_eq_false_iff_ne]
  intro e
  rw [Go.ByteArray.toList_eq, Go.ByteArray.toList_eq] at e
  have := congrArg List.length e
  rw [size_toList] at this
  exact h1 this
theorem z48 : (⟨#[48]⟩ : ByteArray).toList = [48] := by rw [Go.ByteArray.toList_eq]
theorem wrapU8 (n : Int) : IntKind.u8.wrap n = n % 256 := by simp [IntKind.wrap, IntKind.bits, IntKind.signed]
theorem isEmptyN {u : ByteArray} (h : u.size = 0) : u.toList.isEmpty = true := by
  rw [Lib.toList_data, List.isEmpty_iff]
  exact List.eq_nil_of_length_eq_zero (by rw [size_toList]; exact h)
theorem notEmptyN {u : ByteArray} (h : ¬ u.size = 0) : u.toList.isEmpty = false := by
  rw [Lib.toList_data]
  cases hl : u.data.toList with
  | nil => exact absurd (by rw [← size_toList, hl]; rfl) h
  | cons a r => rfl

set_option maxRecDepth 100000 in
set_option maxHeartbeats 2000000 in
theorem small_q (s : ByteArray) (w : World) (hs : s.size ≤ 1048576) : Calls Tryd.prog 45 #[.string s] w fun e w' => e = .returned (.tuple #[.int .i64 (numV s.data.toList : Nat), .bool (numB s.data.toList)]) ∧ w = w' := by
  by_cases h0 : s.size = 0
  · have HR := Lib.hid (num_form (form_empty h0))
    have he : s.toList.isEmpty = true := isEmptyN h0
    go_enter Tryd.func45, Tryd.ntmps45
    go_wp2_with fail
    go_ret2
    exact ⟨(ret_num (numV_no HR.out) HR.out), rfl⟩
  have he : s.toList.isEmpty = false := notEmptyN h0
  by_cases h9 : 9 < s.size
  · have HR := Lib.hid (num_form (form_long h9))
    have h10 : ¬ s.size < 1 := by omega
    go_enter Tryd.func45, Tryd.ntmps45
    go_wp2_with fail
    go_ret2
    exact ⟨(ret_num (numV_no HR.out) HR.out), rfl⟩
  obtain ⟨c0, hc0⟩ : ∃ b, s.data.toList[0]? = some b := ⟨_, List.getElem?_eq_getElem (by rw [size_toList]; omega)⟩
  have hsb : s[0]'(by omega) = c0 := byteAtP hc0 (by omega)
  have hp0 : 0 < s.size := by omega
  have hp1 : (0 : Int) < (s.size : Int) := by omega
  have h10 : ¬ s.size < 1 := by omega
  have HC0 := Lib.hid hc0
  clear hc0
  subst hsb
  have HF := Lib.hid (show ¬ 9 < s.size from h9)
  by_cases hl : 1 < s.size
  all_goals cases h48 : ((s[0].toNat : Int) == 48)
  · have HO := Lib.hid (show numForm s.data.toList = true from form_ok (by omega) (by omega) (Or.inl (by rw [HC0.out]; exact not48 h48)))
    have HB := HO
    go_enter Tryd.func45, Tryd.ntmps45
    go_wp2_with fail
    clear h48
    go_loopw [4, 5] (fun t4 t5 w2 => ∃ k : Nat, k ≤ s.size ∧ t5 = .int .i64 k ∧ t4 = .int .i64 (decV (s.data.toList.take k) : Nat) ∧ EqW w2 w ∧ Hid (digitsB (s.data.toList.take k) = true)) (fun _ t _ => s.size - (intOf t).toNat)
    case atStart => exact ⟨0, Nat.zero_le _, rfl, rfl, EqW.refl _, rfl⟩
    case round =>
      obtain ⟨k, hk, rfl, rfl, hww, HD⟩ := hrel
      unfold EqW at hww
      subst hww
      by_cases hlt : k < s.size
      · obtain ⟨ch, hch0⟩ : ∃ b, s.data.toList[k]? = some b := ⟨_, List.getElem?_eq_getElem (by rw [size_toList]; exact hlt)⟩
        have hch := Lib.hid hch0; clear hch0
        have hsb : s[k] = ch := byteAtP hch.out hlt
        subst hsb
        cases hdg : isDigitP (s[k].toNat : Int)
        · have HDg := Lib.hid hdg
          have HR := Lib.hid (num_bad hch.out hdg)
          clear hdg
          go_wp2_with (go_at_call 67; go_must (refine (shipIsDigit_any _ false _ HDg.out).mono ?_); rintro e w3 ⟨rfl, rfl⟩)
          go_ret2
          exact ⟨(ret_num (numV_no HR.out) HR.out), rfl⟩
        · have HDg := Lib.hid hdg
          have hdd : 48 ≤ (s[k].toNat : Int) ∧ (s[k].toNat : Int) ≤ 57 := by simpa [isDigitP] using hdg
          obtain ⟨hd1, hd2⟩ := hdd
          clear hdg
          have hv := decV_lt (l := s.data.toList) k (by rw [size_toList]; exact hk) HD.out
          have hk9 : k ≤ 8 := by have := HF.out; omega
          have hv2 : decV (s.data.toList.take k) < 100000000 := Nat.lt_of_lt_of_le hv (Nat.le_trans (Nat.pow_le_pow_right (by decide) hk9) (by decide))
          clear hv
          have HS := Lib.hid (decV_succ hch.out)
          obtain ⟨v, hvv⟩ : ∃ v, decV (s.data.toList.take k) = v := ⟨_, rfl⟩
          have HVv := Lib.hid hvv
          rw [hvv] at hv2
          rw [hvv]
          clear hvv
          have f1 : IntKind.i64.wrap (10 * (v : Int)) = 10 * (v : Int) := by rw [IntKind.wrap_i64]; omega
          have f2 : IntKind.u8.wrap ((s[k].toNat : Int) - 48) = ((s[k].toNat - 48 : Nat) : Int) := by rw [wrapU8]; omega
          have f3 : IntKind.i64.wrap ((s[k].toNat - 48 : Nat) : Int) = ((s[k].toNat - 48 : Nat) : Int) := by rw [IntKind.wrap_i64]; omega
          have f4 : IntKind.i64.wrap (10 * (v : Int) + ((s[k].toNat - 48 : Nat) : Int)) = ((10 * v + (s[k].toNat - 48) : Nat) : Int) := by rw [IntKind.wrap_i64]; omega
          go_wp2_with (go_at_call 67; go_must (refine (shipIsDigit_any _ true _ HDg.out).mono ?_); rintro e w3 ⟨rfl, rfl⟩)
          go_roundw
          case rel => exact ⟨k + 1, by omega, by go_num, by rw [HS.out, HVv.out]; simp, EqW.refl _, digits_succ hch.out HD.out HDg.out⟩
          case measure => simp [intOf]; omega
      · have HN := Lib.hid (show numB s.data.toList = true by
          have h := HD.out
          rw [show k = s.size by omega, ← size_toList, List.take_length] at h
          rw [numB, HB.out, h]; rfl)
        have HV := Lib.hid (show ((numV s.data.toList : Nat) : Int) = ((decV (s.data.toList.take k) : Nat) : Int) by
          rw [numV_yes HN.out, show k = s.size by omega, ← size_toList, List.take_length])
        go_wp2_with fail
        go_ret2
        exact ⟨(ret_num HV.out HN.out), rfl⟩
  · have HR := Lib.hid (num_form (form_zero hl (by rw [HC0.out, byte48 h48])))
    have hz := not_one_zero (s := s) (by omega)
    have hz2 : (s.toList == [48]) = false := by rw [← z48]; exact hz
    go_enter Tryd.func45, Tryd.ntmps45
    go_wp2_with fail
    go_ret2
    exact ⟨(ret_num (numV_no HR.out) HR.out), rfl⟩
  · have HO := Lib.hid (show numForm s.data.toList = true from form_ok (by omega) (by omega) (Or.inr (by omega)))
    have HB := HO
    go_enter Tryd.func45, Tryd.ntmps45
    go_wp2_with fail
    clear h48
    go_loopw [4, 5] (fun t4 t5 w2 => ∃ k : Nat, k ≤ s.size ∧ t5 = .int .i64 k ∧ t4 = .int .i64 (decV (s.data.toList.take k) : Nat) ∧ EqW w2 w ∧ Hid (digitsB (s.data.toList.take k) = true)) (fun _ t _ => s.size - (intOf t).toNat)
    case atStart => exact ⟨0, Nat.zero_le _, rfl, rfl, EqW.refl _, rfl⟩
    case round =>
      obtain ⟨k, hk, rfl, rfl, hww, HD⟩ := hrel
      unfold EqW at hww
      subst hww
      by_cases hlt : k < s.size
      · obtain ⟨ch, hch0⟩ : ∃ b, s.data.toList[k]? = some b := ⟨_, List.getElem?_eq_getElem (by rw [size_toList]; exact hlt)⟩
        have hch := Lib.hid hch0; clear hch0
        have hsb : s[k] = ch := byteAtP hch.out hlt
        subst hsb
        cases hdg : isDigitP (s[k].toNat : Int)
        · have HDg := Lib.hid hdg
          have HR := Lib.hid (num_bad hch.out hdg)
          clear hdg
          go_wp2_with (go_at_call 67; go_must (refine (shipIsDigit_any _ false _ HDg.out).mono ?_); rintro e w3 ⟨rfl, rfl⟩)
          go_ret2
          exact ⟨(ret_num (numV_no HR.out) HR.out), rfl⟩
        · have HDg := Lib.hid hdg
          have hdd : 48 ≤ (s[k].toNat : Int) ∧ (s[k].toNat : Int) ≤ 57 := by simpa [isDigitP] using hdg
          obtain ⟨hd1, hd2⟩ := hdd
          clear hdg
          have hv := decV_lt (l := s.data.toList) k (by rw [size_toList]; exact hk) HD.out
          have hk9 : k ≤ 8 := by have := HF.out; omega
          have hv2 : decV (s.data.toList.take k) < 100000000 := Nat.lt_of_lt_of_le hv (Nat.le_trans (Nat.pow_le_pow_right (by decide) hk9) (by decide))
          clear hv
          have HS := Lib.hid (decV_succ hch.out)
          obtain ⟨v, hvv⟩ : ∃ v, decV (s.data.toList.take k) = v := ⟨_, rfl⟩
          have HVv := Lib.hid hvv
          rw [hvv] at hv2
          rw [hvv]
          clear hvv
          have f1 : IntKind.i64.wrap (10 * (v : Int)) = 10 * (v : Int) := by rw [IntKind.wrap_i64]; omega
          have f2 : IntKind.u8.wrap ((s[k].toNat : Int) - 48) = ((s[k].toNat - 48 : Nat) : Int) := by rw [wrapU8]; omega
          have f3 : IntKind.i64.wrap ((s[k].toNat - 48 : Nat) : Int) = ((s[k].toNat - 48 : Nat) : Int) := by rw [IntKind.wrap_i64]; omega
          have f4 : IntKind.i64.wrap (10 * (v : Int) + ((s[k].toNat - 48 : Nat) : Int)) = ((10 * v + (s[k].toNat - 48) : Nat) : Int) := by rw [IntKind.wrap_i64]; omega
          go_wp2_with (go_at_call 67; go_must (refine (shipIsDigit_any _ true _ HDg.out).mono ?_); rintro e w3 ⟨rfl, rfl⟩)
          go_roundw
          case rel => exact ⟨k + 1, by omega, by go_num, by rw [HS.out, HVv.out]; simp, EqW.refl _, digits_succ hch.out HD.out HDg.out⟩
          case measure => simp [intOf]; omega
      · have HN := Lib.hid (show numB s.data.toList = true by
          have h := HD.out
          rw [show k = s.size by omega, ← size_toList, List.take_length] at h
          rw [numB, HB.out, h]; rfl)
        have HV := Lib.hid (show ((numV s.data.toList : Nat) : Int) = ((decV (s.data.toList.take k) : Nat) : Int) by
          rw [numV_yes HN.out, show k = s.size by omega, ← size_toList, List.take_length])
        go_wp2_with fail
        go_ret2
        exact ⟨(ret_num HV.out HN.out), rfl⟩
  · have HO := Lib.hid (show numForm s.data.toList = true from form_ok (by omega) (by omega) (Or.inr (by omega)))
    have hz := one_zero (s := s) (by omega) (by rw [HC0.out, byte48 h48])
    have hz2 : (s.toList == [48]) = true := by rw [← z48]; exact hz
    have HB := HO
    go_enter Tryd.func45, Tryd.ntmps45
    go_wp2_with fail
    clear h48
    go_loopw [4, 5] (fun t4 t5 w2 => ∃ k : Nat, k ≤ s.size ∧ t5 = .int .i64 k ∧ t4 = .int .i64 (decV (s.data.toList.take k) : Nat) ∧ EqW w2 w ∧ Hid (digitsB (s.data.toList.take k) = true)) (fun _ t _ => s.size - (intOf t).toNat)
    case atStart => exact ⟨0, Nat.zero_le _, rfl, rfl, EqW.refl _, rfl⟩
    case round =>
      obtain ⟨k, hk, rfl, rfl, hww, HD⟩ := hrel
      unfold EqW at hww
      subst hww
      by_cases hlt : k < s.size
      · obtain ⟨ch, hch0⟩ : ∃ b, s.data.toList[k]? = some b := ⟨_, List.getElem?_eq_getElem (by rw [size_toList]; exact hlt)⟩
        have hch := Lib.hid hch0; clear hch0
        have hsb : s[k] = ch := byteAtP hch.out hlt
        subst hsb
        cases hdg : isDigitP (s[k].toNat : Int)
        · have HDg := Lib.hid hdg
          have HR := Lib.hid (num_bad hch.out hdg)
          clear hdg
          go_wp2_with (go_at_call 67; go_must (refine (shipIsDigit_any _ false _ HDg.out).mono ?_); rintro e w3 ⟨rfl, rfl⟩)
          go_ret2
          exact ⟨(ret_num (numV_no HR.out) HR.out), rfl⟩
        · have HDg := Lib.hid hdg
          have hdd : 48 ≤ (s[k].toNat : Int) ∧ (s[k].toNat : Int) ≤ 57 := by simpa [isDigitP] using hdg
          obtain ⟨hd1, hd2⟩ := hdd
          clear hdg
          have hv := decV_lt (l := s.data.toList) k (by rw [size_toList]; exact hk) HD.out
          have hk9 : k ≤ 8 := by have := HF.out; omega
          have hv2 : decV (s.data.toList.take k) < 100000000 := Nat.lt_of_lt_of_le hv (Nat.le_trans (Nat.pow_le_pow_right (by decide) hk9) (by decide))
          clear hv
          have HS := Lib.hid (decV_succ hch.out)
          obtain ⟨v, hvv⟩ : ∃ v, decV (s.data.toList.take k) = v := ⟨_, rfl⟩
          have HVv := Lib.hid hvv
          rw [hvv] at hv2
          rw [hvv]
          clear hvv
          have f1 : IntKind.i64.wrap (10 * (v : Int)) = 10 * (v : Int) := by rw [IntKind.wrap_i64]; omega
          have f2 : IntKind.u8.wrap ((s[k].toNat : Int) - 48) = ((s[k].toNat - 48 : Nat) : Int) := by rw [wrapU8]; omega
          have f3 : IntKind.i64.wrap ((s[k].toNat - 48 : Nat) : Int) = ((s[k].toNat - 48 : Nat) : Int) := by rw [IntKind.wrap_i64]; omega
          have f4 : IntKind.i64.wrap (10 * (v : Int) + ((s[k].toNat - 48 : Nat) : Int)) = ((10 * v + (s[k].toNat - 48) : Nat) : Int) := by rw [IntKind.wrap_i64]; omega
          go_wp2_with (go_at_call 67; go_must (refine (shipIsDigit_any _ true _ HDg.out).mono ?_); rintro e w3 ⟨rfl, rfl⟩)
          go_roundw
          case rel => exact ⟨k + 1, by omega, by go_num, by rw [HS.out, HVv.out]; simp, EqW.refl _, digits_succ hch.out HD.out HDg.out⟩
          case measure => simp [intOf]; omega
      · have HN := Lib.hid (show numB s.data.toList = true by
          have h := HD.out
          rw [show k = s.size by omega, ← size_toList, List.take_length] at h
          rw [numB, HB.out, h]; rfl)
        have HV := Lib.hid (show ((numV s.data.toList : Nat) : Int) = ((decV (s.data.toList.take k) : Nat) : Int) by
          rw [numV_yes HN.out, show k = s.size by omega, ← size_toList, List.take_length])
        go_wp2_with fail
        go_ret2
        exact ⟨(ret_num HV.out HN.out), rfl⟩

set_option maxRecDepth 100000 in
set_option maxHeartbeats 2000000 in
theorem natural_q (s : ByteArray) (w : World) (hs : s.size ≤ 1048576) : Calls Tryd.prog 24 #[.string s] w fun e w' => e = .returned (.tuple #[.int .i64 (numV s.data.toList : Nat), .bool (numB s.data.toList)]) ∧ w = w' := by
  by_cases h0 : s.size = 0
  · have HR := Lib.hid (num_form (form_empty h0))
    have he : s.toList.isEmpty = true := isEmptyN h0
    go_enter Tryd.func24, Tryd.ntmps24
    go_wp2_with fail
    go_ret2
    exact ⟨(ret_num (numV_no HR.out) HR.out), rfl⟩
  have he : s.toList.isEmpty = false := notEmptyN h0
  by_cases h9 : 9 < s.size
  · have HR := Lib.hid (num_form (form_long h9))
    have h10 : ¬ s.size < 1 := by omega
    go_enter Tryd.func24, Tryd.ntmps24
    go_wp2_with fail
    go_ret2
    exact ⟨(ret_num (numV_no HR.out) HR.out), rfl⟩
  obtain ⟨c0, hc0⟩ : ∃ b, s.data.toList[0]? = some b := ⟨_, List.getElem?_eq_getElem (by rw [size_toList]; omega)⟩
  have hsb : s[0]'(by omega) = c0 := byteAtP hc0 (by omega)
  have hp0 : 0 < s.size := by omega
  have hp1 : (0 : Int) < (s.size : Int) := by omega
  have h10 : ¬ s.size < 1 := by omega
  have HC0 := Lib.hid hc0
  clear hc0
  subst hsb
  have HF := Lib.hid (show ¬ 9 < s.size from h9)
  by_cases hl : 1 < s.size
  all_goals cases h48 : ((s[0].toNat : Int) == 48)
  · have HO := Lib.hid (show numForm s.data.toList = true from form_ok (by omega) (by omega) (Or.inl (by rw [HC0.out]; exact not48 h48)))
    have HB := HO
    go_enter Tryd.func24, Tryd.ntmps24
    go_wp2_with fail
    clear h48
    go_loopw [4, 5] (fun t4 t5 w2 => ∃ k : Nat, k ≤ s.size ∧ t5 = .int .i64 k ∧ t4 = .int .i64 (decV (s.data.toList.take k) : Nat) ∧ EqW w2 w ∧ Hid (digitsB (s.data.toList.take k) = true)) (fun _ t _ => s.size - (intOf t).toNat)
    case atStart => exact ⟨0, Nat.zero_le _, rfl, rfl, EqW.refl _, rfl⟩
    case round =>
      obtain ⟨k, hk, rfl, rfl, hww, HD⟩ := hrel
      unfold EqW at hww
      subst hww
      by_cases hlt : k < s.size
      · obtain ⟨ch, hch0⟩ : ∃ b, s.data.toList[k]? = some b := ⟨_, List.getElem?_eq_getElem (by rw [size_toList]; exact hlt)⟩
        have hch := Lib.hid hch0; clear hch0
        have hsb : s[k] = ch := byteAtP hch.out hlt
        subst hsb
        cases hdg : isDigitP (s[k].toNat : Int)
        · have HDg := Lib.hid hdg
          have HR := Lib.hid (num_bad hch.out hdg)
          clear hdg
          go_wp2_with (go_at_call 51; go_must (refine (refIsDigit_any _ false _ HDg.out).mono ?_); rintro e w3 ⟨rfl, rfl⟩)
          go_ret2
          exact ⟨(ret_num (numV_no HR.out) HR.out), rfl⟩
        · have HDg := Lib.hid hdg
          have hdd : 48 ≤ (s[k].toNat : Int) ∧ (s[k].toNat : Int) ≤ 57 := by simpa [isDigitP] using hdg
          obtain ⟨hd1, hd2⟩ := hdd
          clear hdg
          have hv := decV_lt (l := s.data.toList) k (by rw [size_toList]; exact hk) HD.out
          have hk9 : k ≤ 8 := by have := HF.out; omega
          have hv2 : decV (s.data.toList.take k) < 100000000 := Nat.lt_of_lt_of_le hv (Nat.le_trans (Nat.pow_le_pow_right (by decide) hk9) (by decide))
          clear hv
          have HS := Lib.hid (decV_succ hch.out)
          obtain ⟨v, hvv⟩ : ∃ v, decV (s.data.toList.take k) = v := ⟨_, rfl⟩
          have HVv := Lib.hid hvv
          rw [hvv] at hv2
          rw [hvv]
          clear hvv
          have f1 : IntKind.i64.wrap (10 * (v : Int)) = 10 * (v : Int) := by rw [IntKind.wrap_i64]; omega
          have f2 : IntKind.u8.wrap ((s[k].toNat : Int) - 48) = ((s[k].toNat - 48 : Nat) : Int) := by rw [wrapU8]; omega
          have f3 : IntKind.i64.wrap ((s[k].toNat - 48 : Nat) : Int) = ((s[k].toNat - 48 : Nat) : Int) := by rw [IntKind.wrap_i64]; omega
          have f4 : IntKind.i64.wrap (10 * (v : Int) + ((s[k].toNat - 48 : Nat) : Int)) = ((10 * v + (s[k].toNat - 48) : Nat) : Int) := by rw [IntKind.wrap_i64]; omega
          go_wp2_with (go_at_call 51; go_must (refine (refIsDigit_any _ true _ HDg.out).mono ?_); rintro e w3 ⟨rfl, rfl⟩)
          go_roundw
          case rel => exact ⟨k + 1, by omega, by go_num, by rw [HS.out, HVv.out]; simp, EqW.refl _, digits_succ hch.out HD.out HDg.out⟩
          case measure => simp [intOf]; omega
      · have HN := Lib.hid (show numB s.data.toList = true by
          have h := HD.out
          rw [show k = s.size by omega, ← size_toList, List.take_length] at h
          rw [numB, HB.out, h]; rfl)
        have HV := Lib.hid (show ((numV s.data.toList : Nat) : Int) = ((decV (s.data.toList.take k) : Nat) : Int) by
          rw [numV_yes HN.out, show k = s.size by omega, ← size_toList, List.take_length])
        go_wp2_with fail
        go_ret2
        exact ⟨(ret_num HV.out HN.out), rfl⟩
  · have HR := Lib.hid (num_form (form_zero hl (by rw [HC0.out, byte48 h48])))
    have hz := not_one_zero (s := s) (by omega)
    have hz2 : (s.toList == [48]) = false := by rw [← z48]; exact hz
    go_enter Tryd.func24, Tryd.ntmps24
    go_wp2_with fail
    go_ret2
    exact ⟨(ret_num (numV_no HR.out) HR.out), rfl⟩
  · have HO := Lib.hid (show numForm s.data.toList = true from form_ok (by omega) (by omega) (Or.inr (by omega)))
    have HB := HO
    go_enter Tryd.func24, Tryd.ntmps24
    go_wp2_with fail
    clear h48
    go_loopw [4, 5] (fun t4 t5 w2 => ∃ k : Nat, k ≤ s.size ∧ t5 = .int .i64 k ∧ t4 = .int .i64 (decV (s.data.toList.take k) : Nat) ∧ EqW w2 w ∧ Hid (digitsB (s.data.toList.take k) = true)) (fun _ t _ => s.size - (intOf t).toNat)
    case atStart => exact ⟨0, Nat.zero_le _, rfl, rfl, EqW.refl _, rfl⟩
    case round =>
      obtain ⟨k, hk, rfl, rfl, hww, HD⟩ := hrel
      unfold EqW at hww
      subst hww
      by_cases hlt : k < s.size
      · obtain ⟨ch, hch0⟩ : ∃ b, s.data.toList[k]? = some b := ⟨_, List.getElem?_eq_getElem (by rw [size_toList]; exact hlt)⟩
        have hch := Lib.hid hch0; clear hch0
        have hsb : s[k] = ch := byteAtP hch.out hlt
        subst hsb
        cases hdg : isDigitP (s[k].toNat : Int)
        · have HDg := Lib.hid hdg
          have HR := Lib.hid (num_bad hch.out hdg)
          clear hdg
          go_wp2_with (go_at_call 51; go_must (refine (refIsDigit_any _ false _ HDg.out).mono ?_); rintro e w3 ⟨rfl, rfl⟩)
          go_ret2
          exact ⟨(ret_num (numV_no HR.out) HR.out), rfl⟩
        · have HDg := Lib.hid hdg
          have hdd : 48 ≤ (s[k].toNat : Int) ∧ (s[k].toNat : Int) ≤ 57 := by simpa [isDigitP] using hdg
          obtain ⟨hd1, hd2⟩ := hdd
          clear hdg
          have hv := decV_lt (l := s.data.toList) k (by rw [size_toList]; exact hk) HD.out
          have hk9 : k ≤ 8 := by have := HF.out; omega
          have hv2 : decV (s.data.toList.take k) < 100000000 := Nat.lt_of_lt_of_le hv (Nat.le_trans (Nat.pow_le_pow_right (by decide) hk9) (by decide))
          clear hv
          have HS := Lib.hid (decV_succ hch.out)
          obtain ⟨v, hvv⟩ : ∃ v, decV (s.data.toList.take k) = v := ⟨_, rfl⟩
          have HVv := Lib.hid hvv
          rw [hvv] at hv2
          rw [hvv]
          clear hvv
          have f1 : IntKind.i64.wrap (10 * (v : Int)) = 10 * (v : Int) := by rw [IntKind.wrap_i64]; omega
          have f2 : IntKind.u8.wrap ((s[k].toNat : Int) - 48) = ((s[k].toNat - 48 : Nat) : Int) := by rw [wrapU8]; omega
          have f3 : IntKind.i64.wrap ((s[k].toNat - 48 : Nat) : Int) = ((s[k].toNat - 48 : Nat) : Int) := by rw [IntKind.wrap_i64]; omega
          have f4 : IntKind.i64.wrap (10 * (v : Int) + ((s[k].toNat - 48 : Nat) : Int)) = ((10 * v + (s[k].toNat - 48) : Nat) : Int) := by rw [IntKind.wrap_i64]; omega
          go_wp2_with (go_at_call 51; go_must (refine (refIsDigit_any _ true _ HDg.out).mono ?_); rintro e w3 ⟨rfl, rfl⟩)
          go_roundw
          case rel => exact ⟨k + 1, by omega, by go_num, by rw [HS.out, HVv.out]; simp, EqW.refl _, digits_succ hch.out HD.out HDg.out⟩
          case measure => simp [intOf]; omega
      · have HN := Lib.hid (show numB s.data.toList = true by
          have h := HD.out
          rw [show k = s.size by omega, ← size_toList, List.take_length] at h
          rw [numB, HB.out, h]; rfl)
        have HV := Lib.hid (show ((numV s.data.toList : Nat) : Int) = ((decV (s.data.toList.take k) : Nat) : Int) by
          rw [numV_yes HN.out, show k = s.size by omega, ← size_toList, List.take_length])
        go_wp2_with fail
        go_ret2
        exact ⟨(ret_num HV.out HN.out), rfl⟩
  · have HO := Lib.hid (show numForm s.data.toList = true from form_ok (by omega) (by omega) (Or.inr (by omega)))
    have hz := one_zero (s := s) (by omega) (by rw [HC0.out, byte48 h48])
    have hz2 : (s.toList == [48]) = true := by rw [← z48]; exact hz
    have HB := HO
    go_enter Tryd.func24, Tryd.ntmps24
    go_wp2_with fail
    clear h48
    go_loopw [4, 5] (fun t4 t5 w2 => ∃ k : Nat, k ≤ s.size ∧ t5 = .int .i64 k ∧ t4 = .int .i64 (decV (s.data.toList.take k) : Nat) ∧ EqW w2 w ∧ Hid (digitsB (s.data.toList.take k) = true)) (fun _ t _ => s.size - (intOf t).toNat)
    case atStart => exact ⟨0, Nat.zero_le _, rfl, rfl, EqW.refl _, rfl⟩
    case round =>
      obtain ⟨k, hk, rfl, rfl, hww, HD⟩ := hrel
      unfold EqW at hww
      subst hww
      by_cases hlt : k < s.size
      · obtain ⟨ch, hch0⟩ : ∃ b, s.data.toList[k]? = some b := ⟨_, List.getElem?_eq_getElem (by rw [size_toList]; exact hlt)⟩
        have hch := Lib.hid hch0; clear hch0
        have hsb : s[k] = ch := byteAtP hch.out hlt
        subst hsb
        cases hdg : isDigitP (s[k].toNat : Int)
        · have HDg := Lib.hid hdg
          have HR := Lib.hid (num_bad hch.out hdg)
          clear hdg
          go_wp2_with (go_at_call 51; go_must (refine (refIsDigit_any _ false _ HDg.out).mono ?_); rintro e w3 ⟨rfl, rfl⟩)
          go_ret2
          exact ⟨(ret_num (numV_no HR.out) HR.out), rfl⟩
        · have HDg := Lib.hid hdg
          have hdd : 48 ≤ (s[k].toNat : Int) ∧ (s[k].toNat : Int) ≤ 57 := by simpa [isDigitP] using hdg
          obtain ⟨hd1, hd2⟩ := hdd
          clear hdg
          have hv := decV_lt (l := s.data.toList) k (by rw [size_toList]; exact hk) HD.out
          have hk9 : k ≤ 8 := by have := HF.out; omega
          have hv2 : decV (s.data.toList.take k) < 100000000 := Nat.lt_of_lt_of_le hv (Nat.le_trans (Nat.pow_le_pow_right (by decide) hk9) (by decide))
          clear hv
          have HS := Lib.hid (decV_succ hch.out)
          obtain ⟨v, hvv⟩ : ∃ v, decV (s.data.toList.take k) = v := ⟨_, rfl⟩
          have HVv := Lib.hid hvv
          rw [hvv] at hv2
          rw [hvv]
          clear hvv
          have f1 : IntKind.i64.wrap (10 * (v : Int)) = 10 * (v : Int) := by rw [IntKind.wrap_i64]; omega
          have f2 : IntKind.u8.wrap ((s[k].toNat : Int) - 48) = ((s[k].toNat - 48 : Nat) : Int) := by rw [wrapU8]; omega
          have f3 : IntKind.i64.wrap ((s[k].toNat - 48 : Nat) : Int) = ((s[k].toNat - 48 : Nat) : Int) := by rw [IntKind.wrap_i64]; omega
          have f4 : IntKind.i64.wrap (10 * (v : Int) + ((s[k].toNat - 48 : Nat) : Int)) = ((10 * v + (s[k].toNat - 48) : Nat) : Int) := by rw [IntKind.wrap_i64]; omega
          go_wp2_with (go_at_call 51; go_must (refine (refIsDigit_any _ true _ HDg.out).mono ?_); rintro e w3 ⟨rfl, rfl⟩)
          go_roundw
          case rel => exact ⟨k + 1, by omega, by go_num, by rw [HS.out, HVv.out]; simp, EqW.refl _, digits_succ hch.out HD.out HDg.out⟩
          case measure => simp [intOf]; omega
      · have HN := Lib.hid (show numB s.data.toList = true by
          have h := HD.out
          rw [show k = s.size by omega, ← size_toList, List.take_length] at h
          rw [numB, HB.out, h]; rfl)
        have HV := Lib.hid (show ((numV s.data.toList : Nat) : Int) = ((decV (s.data.toList.take k) : Nat) : Int) by
          rw [numV_yes HN.out, show k = s.size by omega, ← size_toList, List.take_length])
        go_wp2_with fail
        go_ret2
        exact ⟨(ret_num HV.out HN.out), rfl⟩

end Go.Proofs.YtfeecoeeiangnaaDoor
