/-
  A part of a path: ship.isPart and mastref1.pathPart.
-/
import Derived.Test.YtmcelgokchhpfaaGreatDoorBytes
import Derived.Deep.DeepMust
import Derived.WalkSpells
import Derived.Outline
namespace Go.Proofs.YtmcelgokchhpfaaGreatDoor
open Go.RowKit Go.Deep

def smallP (n : Int) : Bool := decide (97 ≤ n) && decide (n ≤ 122)
def digitP (n : Int) : Bool := decide (48 ≤ n) && decide (n ≤ 57)
/-- a byte of a part of a path -/
def partP (n : Int) : Bool := smallP n || digitP n || decide (n = 45) || decide (n = 95) || decide (n = 46)
/-- a part of a path -/
def partL (l : List UInt8) : Bool := decide (1 ≤ l.length) && decide (l.length ≤ 40) && !(l == [46]) && !(l == [46, 46]) && l.all fun c => partP (c.toNat : Int)

theorem byteAtP {s : ByteArray} {i : Nat} {c : UInt8} (h : s.data.toList[i]? = some c) (hi : i < s.size) : s[i] = c := by
  obtain ⟨h1, h2⟩ := List.getElem?_eq_some_iff.1 h
  rw [← h2]; rfl

theorem part_all {l : List UInt8} (h1 : 1 ≤ l.length) (h2 : l.length ≤ 40) (h3 : (l == [46]) = false) (h4 : (l == [46, 46]) = false) (h5 : ∀ (j : Nat) (c : UInt8), l[j]? = some c → partP (c.toNat : Int) = true) : partL l = true := by
  simp only [partL, h1, h2, h3, h4, decide_true, Bool.not_false, Bool.true_and, Bool.and_true, List.all_eq_true]
  intro c hc
  obtain ⟨j, hj⟩ := List.mem_iff_getElem?.1 hc
  exact h5 j c hj
theorem part_bad {l : List UInt8} {j : Nat} {c : UInt8} (h : l[j]? = some c) (hc : partP (c.toNat : Int) = false) : partL l = false := by
  have : (l.all fun c => partP (c.toNat : Int)) = false := by
    rw [List.all_eq_false]
    exact ⟨c, List.mem_of_getElem? h, by simp [hc]⟩
  rw [partL, this, Bool.and_false]

theorem part_cases (n : Int) : (97 ≤ n ∧ n ≤ 122 ∧ partP n = true) ∨ (digitP n = true ∧ ¬ 97 ≤ n ∧ partP n = true) ∨ (digitP n = false ∧ ¬ 97 ≤ n ∧ n = 45 ∧ partP n = true) ∨ (digitP n = false ∧ ¬ 97 ≤ n ∧ n = 95 ∧ partP n = true) ∨ (digitP n = false ∧ ¬ 97 ≤ n ∧ n = 46 ∧ partP n = true) ∨
    (digitP n = false ∧ ¬ 97 ≤ n ∧ ¬ n = 45 ∧ ¬ n = 95 ∧ ¬ n = 46 ∧ partP n = false) ∨ (digitP n = false ∧ 97 ≤ n ∧ ¬ n ≤ 122 ∧ ¬ n = 45 ∧ ¬ n = 95 ∧ ¬ n = 46 ∧ partP n = false) := by
  simp only [partP, smallP, digitP, Bool.or_eq_true, Bool.and_eq_true, decide_eq_true_eq, Bool.or_eq_false_iff, Bool.and_eq_false_iff, decide_eq_false_iff_not]
  omega

theorem shipDigit_any (n : Int) (v : Bool) (w : World) (h : digitP n = v) : Calls Tryz.prog 26 #[.int .u8 n] w fun e w' => e = .returned (.bool v) ∧ w = w' := by
  have H := Lib.hid h; clear h
  by_cases h0 : 48 ≤ n <;> by_cases h1 : n ≤ 57 <;>
  (go_enter Tryz.func26, Tryz.ntmps26
   go_wp2
   go_ret
   exact ⟨ret_bool (by rw [← H.out]; simp [digitP]; omega), rfl⟩)

theorem refDigit_any (n : Int) (v : Bool) (w : World) (h : digitP n = v) : Calls Tryz.prog 39 #[.int .u8 n] w fun e w' => e = .returned (.bool v) ∧ w = w' := by
  have H := Lib.hid h; clear h
  by_cases h0 : 48 ≤ n <;> by_cases h1 : n ≤ 57 <;>
  (go_enter Tryz.func39, Tryz.ntmps39
   go_wp2
   go_ret
   exact ⟨ret_bool (by rw [← H.out]; simp [digitP]; omega), rfl⟩)

theorem word_cases (n : Int) : (97 ≤ n ∧ n ≤ 122) ∨ (¬ 97 ≤ n ∧ digitP n = true) ∨ (¬ 97 ≤ n ∧ digitP n = false ∧ n = 95) ∨ (¬ 97 ≤ n ∧ digitP n = false ∧ ¬ n = 95) ∨ (97 ≤ n ∧ ¬ n ≤ 122 ∧ digitP n = false ∧ ¬ n = 95) := by
  simp only [digitP, Bool.and_eq_true, decide_eq_true_eq, Bool.and_eq_false_iff, decide_eq_false_iff_not]
  omega
set_option maxHeartbeats 1000000 in
theorem wordByte_any (n : Int) (v : Bool) (w : World) (h : (smallP n || digitP n || decide (n = 95)) = v) : Calls Tryz.prog 98 #[.int .u8 n] w fun e w' => e = .returned (.bool v) ∧ w = w' := by
  rcases word_cases n with ⟨h0, h1⟩ | ⟨h0, hd⟩ | ⟨h0, hd, h1⟩ | ⟨h0, hd, h1⟩ | ⟨h0, h1, hd, h2⟩
  · obtain rfl : true = v := by rw [← h]; simp [smallP, h0, h1]
    clear h
    go_enter Tryz.func98, Tryz.ntmps98
    go_wp2_with fail
    go_ret
    exact ⟨rfl, rfl⟩
  · obtain rfl : true = v := by rw [← h, hd]; simp
    clear h
    have HD := Lib.hid hd; clear hd
    go_enter Tryz.func98, Tryz.ntmps98
    go_wp2_with (go_at_call 39; go_must (refine (refDigit_any _ true _ HD.out).mono ?_); rintro e w1 ⟨rfl, rfl⟩)
    go_ret
    exact ⟨rfl, rfl⟩
  · subst h1
    obtain rfl : true = v := by rw [← h]; decide
    clear h
    go_enter Tryz.func98, Tryz.ntmps98
    go_wp2_with (go_at_call 39; go_must (refine (refDigit_any _ false _ (by decide)).mono ?_); rintro e w1 ⟨rfl, rfl⟩)
    go_ret
    exact ⟨rfl, rfl⟩
  · obtain rfl : false = v := by rw [← h, hd]; simp [smallP, h1]; omega
    clear h
    have HD := Lib.hid hd; clear hd
    go_enter Tryz.func98, Tryz.ntmps98
    go_wp2_with (go_at_call 39; go_must (refine (refDigit_any _ false _ HD.out).mono ?_); rintro e w1 ⟨rfl, rfl⟩)
    go_ret
    exact ⟨ret_bool (by simp [h1]), rfl⟩
  · obtain rfl : false = v := by rw [← h, hd]; simp [smallP, h2]; omega
    clear h
    have HD := Lib.hid hd; clear hd
    go_enter Tryz.func98, Tryz.ntmps98
    go_wp2_with (go_at_call 39; go_must (refine (refDigit_any _ false _ HD.out).mono ?_); rintro e w1 ⟨rfl, rfl⟩)
    go_ret
    exact ⟨ret_bool (by simp [h2]), rfl⟩

set_option maxHeartbeats 2000000 in
theorem shipPart_any (s : ByteArray) (v : Bool) (w : World) (h : partL s.data.toList = v) : Calls Tryz.prog 46 #[.string s] w fun e w' => e = .returned (.bool v) ∧ w = w' := by
  subst h
  by_cases hA : s.size = 0
  · have e0 : s.toList = [] := by have := size_toList s; rw [hA] at this; rw [Go.ByteArray.toList_eq]; exact List.eq_nil_of_length_eq_zero this
    have HR := Lib.hid (show partL s.data.toList = false by simp [partL, hA])
    go_enter Tryz.func46, Tryz.ntmps46
    go_wp2_with fail
    go_ret
    exact ⟨ret_bool HR.out.symm, rfl⟩
  have e0 : s.toList.isEmpty = false := by
    have hne : ¬ s.data.toList = [] := by intro hs; exact absurd (by rw [← size_toList, hs]; rfl) hA
    have h2 : ¬ s.toList = [] := by rw [Go.ByteArray.toList_eq]; exact hne
    cases hs : s.toList with | nil => exact absurd hs h2 | cons a r => rfl
  have hA1 : ¬ s.size < 1 := by omega
  by_cases hB : 40 < s.size
  · have HR := Lib.hid (show partL s.data.toList = false by simp only [partL, size_toList, show decide (s.size ≤ 40) = false by simp; omega, Bool.and_false, Bool.false_and])
    go_enter Tryz.func46, Tryz.ntmps46
    go_wp2_with fail
    go_ret
    exact ⟨ret_bool HR.out.symm, rfl⟩
  cases e1 : s.data.toList == [46]
  case true =>
    have HR := Lib.hid (show partL s.data.toList = false by simp only [partL, e1, Bool.not_true, Bool.and_false, Bool.false_and])
    have f1 : s.toList = [46] := by rw [Go.ByteArray.toList_eq]; exact eq_of_beq e1
    have f2 : s.size = 1 := by have := size_toList s; rw [eq_of_beq e1] at this; simpa using this.symm
    clear e1
    go_enter Tryz.func46, Tryz.ntmps46
    go_wp2_with fail
    go_ret
    exact ⟨ret_bool HR.out.symm, rfl⟩
  cases e2 : s.data.toList == [46, 46]
  case true =>
    have HR := Lib.hid (show partL s.data.toList = false by simp only [partL, e2, Bool.not_true, Bool.and_false, Bool.false_and])
    have f1 : s.toList = [46, 46] := by rw [Go.ByteArray.toList_eq]; exact eq_of_beq e2
    have f2 : s.size = 2 := by have := size_toList s; rw [eq_of_beq e2] at this; simpa using this.symm
    clear e1 e2
    go_enter Tryz.func46, Tryz.ntmps46
    go_wp2_with fail
    go_ret
    exact ⟨ret_bool HR.out.symm, rfl⟩
  have HAll := Lib.hid (fun (h5 : ∀ (j : Nat) (c : UInt8), s.data.toList[j]? = some c → partP (c.toNat : Int) = true) => part_all (l := s.data.toList) (by rw [size_toList]; omega) (by rw [size_toList]; omega) e1 e2 h5)
  have f1 : (s.toList == [46]) = false := by rw [Go.ByteArray.toList_eq]; exact e1
  have f2 : (s.toList == [46, 46]) = false := by rw [Go.ByteArray.toList_eq]; exact e2
  go_enter Tryz.func46, Tryz.ntmps46
  go_wp2_with fail
  clear e0 e1 e2 f1 f2
  go_loopw [3] (fun t w2 => ∃ k : Nat, k ≤ s.size ∧ t = .int .i64 k ∧ EqW w2 w ∧ ∀ (j : Nat) (c : UInt8), s.data.toList[j]? = some c → j < k → partP (c.toNat : Int) = true) (fun t _ => s.size - (intOf t).toNat)
  case atStart => exact ⟨0, Nat.zero_le _, rfl, EqW.refl _, fun j c _ h => absurd h (by omega)⟩
  case round =>
    obtain ⟨k, hk, rfl, hww, hall0⟩ := hrel
    unfold EqW at hww
    subst hww
    have hall := Lib.hid hall0; clear hall0
    by_cases hlt : k < s.size
    · obtain ⟨ch, hch0⟩ : ∃ b, s.data.toList[k]? = some b := ⟨_, List.getElem?_eq_getElem (by rw [size_toList]; exact hlt)⟩
      have hch := Lib.hid hch0; clear hch0
      have hsb : s[k] = ch := byteAtP hch.out hlt
      subst hsb
      rcases part_cases (s[k].toNat : Int) with h1 | h1 | h1 | h1 | h1 | h1 | h1
      · obtain ⟨d1, d2, hp⟩ := h1
        have HP := Lib.hid hp; clear hp
        have HD := Lib.hid (show digitP (s[k].toNat : Int) = false by simp [digitP]; omega)
        go_wp2_with (go_at_call 26; go_must (refine (shipDigit_any _ _ _ HD.out).mono ?_); rintro e w1 ⟨rfl, rfl⟩)
        go_roundw
        case rel =>
          refine ⟨k + 1, by omega, by go_num, EqW.refl _, fun j c h3 h4 => ?_⟩
          rcases Nat.lt_succ_iff_lt_or_eq.1 h4 with h5 | rfl
          · exact hall.out j c h3 h5
          · rw [hch.out] at h3
            cases h3
            exact HP.out
        case measure => simp [intOf]; omega
      · obtain ⟨hdg, d1, hp⟩ := h1
        have HP := Lib.hid hp; clear hp
        have HD := Lib.hid hdg; clear hdg
        go_wp2_with (go_at_call 26; go_must (refine (shipDigit_any _ _ _ HD.out).mono ?_); rintro e w1 ⟨rfl, rfl⟩)
        go_roundw
        case rel =>
          refine ⟨k + 1, by omega, by go_num, EqW.refl _, fun j c h3 h4 => ?_⟩
          rcases Nat.lt_succ_iff_lt_or_eq.1 h4 with h5 | rfl
          · exact hall.out j c h3 h5
          · rw [hch.out] at h3
            cases h3
            exact HP.out
        case measure => simp [intOf]; omega
      · obtain ⟨hdg, d1, d2, hp⟩ := h1
        have HP := Lib.hid hp; clear hp
        have HD := Lib.hid hdg; clear hdg
        go_wp2_with (go_at_call 26; go_must (refine (shipDigit_any _ false _ (by decide)).mono ?_); rintro e w1 ⟨rfl, rfl⟩)
        go_roundw
        case rel =>
          refine ⟨k + 1, by omega, by go_num, EqW.refl _, fun j c h3 h4 => ?_⟩
          rcases Nat.lt_succ_iff_lt_or_eq.1 h4 with h5 | rfl
          · exact hall.out j c h3 h5
          · rw [hch.out] at h3
            cases h3
            exact HP.out
        case measure => simp [intOf]; omega
      · obtain ⟨hdg, d1, d2, hp⟩ := h1
        have HP := Lib.hid hp; clear hp
        have HD := Lib.hid hdg; clear hdg
        go_wp2_with (go_at_call 26; go_must (refine (shipDigit_any _ false _ (by decide)).mono ?_); rintro e w1 ⟨rfl, rfl⟩)
        go_roundw
        case rel =>
          refine ⟨k + 1, by omega, by go_num, EqW.refl _, fun j c h3 h4 => ?_⟩
          rcases Nat.lt_succ_iff_lt_or_eq.1 h4 with h5 | rfl
          · exact hall.out j c h3 h5
          · rw [hch.out] at h3
            cases h3
            exact HP.out
        case measure => simp [intOf]; omega
      · obtain ⟨hdg, d1, d2, hp⟩ := h1
        have HP := Lib.hid hp; clear hp
        have HD := Lib.hid hdg; clear hdg
        go_wp2_with (go_at_call 26; go_must (refine (shipDigit_any _ false _ (by decide)).mono ?_); rintro e w1 ⟨rfl, rfl⟩)
        go_roundw
        case rel =>
          refine ⟨k + 1, by omega, by go_num, EqW.refl _, fun j c h3 h4 => ?_⟩
          rcases Nat.lt_succ_iff_lt_or_eq.1 h4 with h5 | rfl
          · exact hall.out j c h3 h5
          · rw [hch.out] at h3
            cases h3
            exact HP.out
        case measure => simp [intOf]; omega
      · obtain ⟨hdg, d1, d2, d3, d4, hp⟩ := h1
        have HP := Lib.hid hp; clear hp
        have HD := Lib.hid hdg; clear hdg
        have b45 : ((s[k].toNat : Int) == 45) = false := by simpa using d2
        have c45 : ((s[k].toNat : Int) != 45) = true := by simpa using d2
        have b95 : ((s[k].toNat : Int) == 95) = false := by simpa using d3
        have c95 : ((s[k].toNat : Int) != 95) = true := by simpa using d3
        have b46 : ((s[k].toNat : Int) == 46) = false := by simpa using d4
        have c46 : ((s[k].toNat : Int) != 46) = true := by simpa using d4
        go_wp2_with (go_at_call 26; go_must (refine (shipDigit_any _ _ _ HD.out).mono ?_); rintro e w1 ⟨rfl, rfl⟩)
        go_ret
        exact ⟨ret_bool (part_bad hch.out HP.out).symm, rfl⟩
      · obtain ⟨hdg, d1, d2, d3, d4, d5, hp⟩ := h1
        have HP := Lib.hid hp; clear hp
        have HD := Lib.hid hdg; clear hdg
        have b45 : ((s[k].toNat : Int) == 45) = false := by simpa using d3
        have c45 : ((s[k].toNat : Int) != 45) = true := by simpa using d3
        have b95 : ((s[k].toNat : Int) == 95) = false := by simpa using d4
        have c95 : ((s[k].toNat : Int) != 95) = true := by simpa using d4
        have b46 : ((s[k].toNat : Int) == 46) = false := by simpa using d5
        have c46 : ((s[k].toNat : Int) != 46) = true := by simpa using d5
        go_wp2_with (go_at_call 26; go_must (refine (shipDigit_any _ _ _ HD.out).mono ?_); rintro e w1 ⟨rfl, rfl⟩)
        go_ret
        exact ⟨ret_bool (part_bad hch.out HP.out).symm, rfl⟩
    · have HR := Lib.hid (HAll.out (fun j c h3 => hall.out j c h3 (by have := (List.getElem?_eq_some_iff.1 h3).1; rw [size_toList] at this; omega)))
      clear hall
      go_wp2_with fail
      go_ret
      exact ⟨ret_bool HR.out.symm, rfl⟩

set_option maxHeartbeats 2000000 in
theorem refPart_any (s : ByteArray) (v : Bool) (w : World) (h : partL s.data.toList = v) : Calls Tryz.prog 79 #[.string s] w fun e w' => e = .returned (.bool v) ∧ w = w' := by
  subst h
  by_cases hA : s.size = 0
  · have e0 : s.toList = [] := by have := size_toList s; rw [hA] at this; rw [Go.ByteArray.toList_eq]; exact List.eq_nil_of_length_eq_zero this
    have HR := Lib.hid (show partL s.data.toList = false by simp [partL, hA])
    go_enter Tryz.func79, Tryz.ntmps79
    go_wp2_with fail
    go_ret
    exact ⟨ret_bool HR.out.symm, rfl⟩
  have e0 : s.toList.isEmpty = false := by
    have hne : ¬ s.data.toList = [] := by intro hs; exact absurd (by rw [← size_toList, hs]; rfl) hA
    have h2 : ¬ s.toList = [] := by rw [Go.ByteArray.toList_eq]; exact hne
    cases hs : s.toList with | nil => exact absurd hs h2 | cons a r => rfl
  have hA1 : ¬ s.size < 1 := by omega
  by_cases hB : 40 < s.size
  · have HR := Lib.hid (show partL s.data.toList = false by simp only [partL, size_toList, show decide (s.size ≤ 40) = false by simp; omega, Bool.and_false, Bool.false_and])
    go_enter Tryz.func79, Tryz.ntmps79
    go_wp2_with fail
    go_ret
    exact ⟨ret_bool HR.out.symm, rfl⟩
  cases e1 : s.data.toList == [46]
  case true =>
    have HR := Lib.hid (show partL s.data.toList = false by simp only [partL, e1, Bool.not_true, Bool.and_false, Bool.false_and])
    have f1 : s.toList = [46] := by rw [Go.ByteArray.toList_eq]; exact eq_of_beq e1
    have f2 : s.size = 1 := by have := size_toList s; rw [eq_of_beq e1] at this; simpa using this.symm
    clear e1
    go_enter Tryz.func79, Tryz.ntmps79
    go_wp2_with fail
    go_ret
    exact ⟨ret_bool HR.out.symm, rfl⟩
  cases e2 : s.data.toList == [46, 46]
  case true =>
    have HR := Lib.hid (show partL s.data.toList = false by simp only [partL, e2, Bool.not_true, Bool.and_false, Bool.false_and])
    have f1 : s.toList = [46, 46] := by rw [Go.ByteArray.toList_eq]; exact eq_of_beq e2
    have f2 : s.size = 2 := by have := size_toList s; rw [eq_of_beq e2] at this; simpa using this.symm
    clear e1 e2
    go_enter Tryz.func79, Tryz.ntmps79
    go_wp2_with fail
    go_ret
    exact ⟨ret_bool HR.out.symm, rfl⟩
  have HAll := Lib.hid (fun (h5 : ∀ (j : Nat) (c : UInt8), s.data.toList[j]? = some c → partP (c.toNat : Int) = true) => part_all (l := s.data.toList) (by rw [size_toList]; omega) (by rw [size_toList]; omega) e1 e2 h5)
  have f1 : (s.toList == [46]) = false := by rw [Go.ByteArray.toList_eq]; exact e1
  have f2 : (s.toList == [46, 46]) = false := by rw [Go.ByteArray.toList_eq]; exact e2
  go_enter Tryz.func79, Tryz.ntmps79
  go_wp2_with fail
  clear e0 e1 e2 f1 f2
  go_loopw [3] (fun t w2 => ∃ k : Nat, k ≤ s.size ∧ t = .int .i64 k ∧ EqW w2 w ∧ ∀ (j : Nat) (c : UInt8), s.data.toList[j]? = some c → j < k → partP (c.toNat : Int) = true) (fun t _ => s.size - (intOf t).toNat)
  case atStart => exact ⟨0, Nat.zero_le _, rfl, EqW.refl _, fun j c _ h => absurd h (by omega)⟩
  case round =>
    obtain ⟨k, hk, rfl, hww, hall0⟩ := hrel
    unfold EqW at hww
    subst hww
    have hall := Lib.hid hall0; clear hall0
    by_cases hlt : k < s.size
    · obtain ⟨ch, hch0⟩ : ∃ b, s.data.toList[k]? = some b := ⟨_, List.getElem?_eq_getElem (by rw [size_toList]; exact hlt)⟩
      have hch := Lib.hid hch0; clear hch0
      have hsb : s[k] = ch := byteAtP hch.out hlt
      subst hsb
      rcases part_cases (s[k].toNat : Int) with h1 | h1 | h1 | h1 | h1 | h1 | h1
      · obtain ⟨d1, d2, hp⟩ := h1
        have HP := Lib.hid hp; clear hp
        have HD := Lib.hid (show digitP (s[k].toNat : Int) = false by simp [digitP]; omega)
        have HWB := Lib.hid (show (smallP (s[k].toNat : Int) || digitP (s[k].toNat : Int) || decide ((s[k].toNat : Int) = 95)) = true by rw [HD.out]; simp [smallP] <;> omega)
        go_wp2_with (go_at_call 98; go_must (refine (wordByte_any _ _ _ HWB.out).mono ?_); rintro e w1 ⟨rfl, rfl⟩)
        go_roundw
        case rel =>
          refine ⟨k + 1, by omega, by go_num, EqW.refl _, fun j c h3 h4 => ?_⟩
          rcases Nat.lt_succ_iff_lt_or_eq.1 h4 with h5 | rfl
          · exact hall.out j c h3 h5
          · rw [hch.out] at h3
            cases h3
            exact HP.out
        case measure => simp [intOf]; omega
      · obtain ⟨hdg, d1, hp⟩ := h1
        have HP := Lib.hid hp; clear hp
        have HD := Lib.hid hdg; clear hdg
        have HWB := Lib.hid (show (smallP (s[k].toNat : Int) || digitP (s[k].toNat : Int) || decide ((s[k].toNat : Int) = 95)) = true by rw [HD.out]; simp [smallP] <;> omega)
        go_wp2_with (go_at_call 98; go_must (refine (wordByte_any _ _ _ HWB.out).mono ?_); rintro e w1 ⟨rfl, rfl⟩)
        go_roundw
        case rel =>
          refine ⟨k + 1, by omega, by go_num, EqW.refl _, fun j c h3 h4 => ?_⟩
          rcases Nat.lt_succ_iff_lt_or_eq.1 h4 with h5 | rfl
          · exact hall.out j c h3 h5
          · rw [hch.out] at h3
            cases h3
            exact HP.out
        case measure => simp [intOf]; omega
      · obtain ⟨hdg, d1, d2, hp⟩ := h1
        have HP := Lib.hid hp; clear hp
        have HD := Lib.hid hdg; clear hdg
        have HWB := Lib.hid (show (smallP (s[k].toNat : Int) || digitP (s[k].toNat : Int) || decide ((s[k].toNat : Int) = 95)) = false by rw [HD.out]; simp [smallP] <;> omega)
        go_wp2_with (go_at_call 98; go_must (refine (wordByte_any _ false _ (by decide)).mono ?_); rintro e w1 ⟨rfl, rfl⟩)
        go_roundw
        case rel =>
          refine ⟨k + 1, by omega, by go_num, EqW.refl _, fun j c h3 h4 => ?_⟩
          rcases Nat.lt_succ_iff_lt_or_eq.1 h4 with h5 | rfl
          · exact hall.out j c h3 h5
          · rw [hch.out] at h3
            cases h3
            exact HP.out
        case measure => simp [intOf]; omega
      · obtain ⟨hdg, d1, d2, hp⟩ := h1
        have HP := Lib.hid hp; clear hp
        have HD := Lib.hid hdg; clear hdg
        have HWB := Lib.hid (show (smallP (s[k].toNat : Int) || digitP (s[k].toNat : Int) || decide ((s[k].toNat : Int) = 95)) = true by rw [HD.out]; simp [smallP] <;> omega)
        go_wp2_with (go_at_call 98; go_must (refine (wordByte_any _ true _ (by decide)).mono ?_); rintro e w1 ⟨rfl, rfl⟩)
        go_roundw
        case rel =>
          refine ⟨k + 1, by omega, by go_num, EqW.refl _, fun j c h3 h4 => ?_⟩
          rcases Nat.lt_succ_iff_lt_or_eq.1 h4 with h5 | rfl
          · exact hall.out j c h3 h5
          · rw [hch.out] at h3
            cases h3
            exact HP.out
        case measure => simp [intOf]; omega
      · obtain ⟨hdg, d1, d2, hp⟩ := h1
        have HP := Lib.hid hp; clear hp
        have HD := Lib.hid hdg; clear hdg
        have HWB := Lib.hid (show (smallP (s[k].toNat : Int) || digitP (s[k].toNat : Int) || decide ((s[k].toNat : Int) = 95)) = false by rw [HD.out]; simp [smallP] <;> omega)
        go_wp2_with (go_at_call 98; go_must (refine (wordByte_any _ false _ (by decide)).mono ?_); rintro e w1 ⟨rfl, rfl⟩)
        go_roundw
        case rel =>
          refine ⟨k + 1, by omega, by go_num, EqW.refl _, fun j c h3 h4 => ?_⟩
          rcases Nat.lt_succ_iff_lt_or_eq.1 h4 with h5 | rfl
          · exact hall.out j c h3 h5
          · rw [hch.out] at h3
            cases h3
            exact HP.out
        case measure => simp [intOf]; omega
      · obtain ⟨hdg, d1, d2, d3, d4, hp⟩ := h1
        have HP := Lib.hid hp; clear hp
        have HD := Lib.hid hdg; clear hdg
        have HWB := Lib.hid (show (smallP (s[k].toNat : Int) || digitP (s[k].toNat : Int) || decide ((s[k].toNat : Int) = 95)) = false by rw [HD.out]; simp [smallP] <;> omega)
        have b45 : ((s[k].toNat : Int) == 45) = false := by simpa using d2
        have c45 : ((s[k].toNat : Int) != 45) = true := by simpa using d2
        have b95 : ((s[k].toNat : Int) == 95) = false := by simpa using d3
        have c95 : ((s[k].toNat : Int) != 95) = true := by simpa using d3
        have b46 : ((s[k].toNat : Int) == 46) = false := by simpa using d4
        have c46 : ((s[k].toNat : Int) != 46) = true := by simpa using d4
        go_wp2_with (go_at_call 98; go_must (refine (wordByte_any _ _ _ HWB.out).mono ?_); rintro e w1 ⟨rfl, rfl⟩)
        go_ret
        exact ⟨ret_bool (part_bad hch.out HP.out).symm, rfl⟩
      · obtain ⟨hdg, d1, d2, d3, d4, d5, hp⟩ := h1
        have HP := Lib.hid hp; clear hp
        have HD := Lib.hid hdg; clear hdg
        have HWB := Lib.hid (show (smallP (s[k].toNat : Int) || digitP (s[k].toNat : Int) || decide ((s[k].toNat : Int) = 95)) = false by rw [HD.out]; simp [smallP] <;> omega)
        have b45 : ((s[k].toNat : Int) == 45) = false := by simpa using d3
        have c45 : ((s[k].toNat : Int) != 45) = true := by simpa using d3
        have b95 : ((s[k].toNat : Int) == 95) = false := by simpa using d4
        have c95 : ((s[k].toNat : Int) != 95) = true := by simpa using d4
        have b46 : ((s[k].toNat : Int) == 46) = false := by simpa using d5
        have c46 : ((s[k].toNat : Int) != 46) = true := by simpa using d5
        go_wp2_with (go_at_call 98; go_must (refine (wordByte_any _ _ _ HWB.out).mono ?_); rintro e w1 ⟨rfl, rfl⟩)
        go_ret
        exact ⟨ret_bool (part_bad hch.out HP.out).symm, rfl⟩
    · have HR := Lib.hid (HAll.out (fun j c h3 => hall.out j c h3 (by have := (List.getElem?_eq_some_iff.1 h3).1; rw [size_toList] at this; omega)))
      clear hall
      go_wp2_with fail
      go_ret
      exact ⟨ret_bool HR.out.symm, rfl⟩

end Go.Proofs.YtmcelgokchhpfaaGreatDoor
