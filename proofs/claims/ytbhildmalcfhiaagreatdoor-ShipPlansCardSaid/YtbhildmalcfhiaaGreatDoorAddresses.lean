/-
  Addresses and paths: ship.Address, ship.Path, mastref1.AddressOf, mastref1.PathOf.
-/
import Derived.Test.YtbhildmalcfhiaaGreatDoorBytes
import Derived.Deep.DeepMust
import Derived.WalkSpells
import Derived.Outline
import Derived.Test.YtbhildmalcfhiaaGreatDoorShelf
import Derived.Lib.SplitLaws
import Derived.Lib.SmallJoins
namespace Go.Proofs.YtbhildmalcfhiaaGreatDoor
open Go.RowKit Go.Deep

def smallP (n : Int) : Bool := decide (97 ≤ n) && decide (n ≤ 122)
def digitP (n : Int) : Bool := decide (48 ≤ n) && decide (n ≤ 57)
/-- a byte of a part of a path -/
def partP (n : Int) : Bool := smallP n || digitP n || decide (n = 45) || decide (n = 95) || decide (n = 46)
/-- a part of a path -/
def partL (l : List UInt8) : Bool := decide (1 ≤ l.length) && decide (l.length ≤ 40) && !(l == [46]) && !(l == [46, 46]) && l.all fun c => partP (c.toNat : Int)

theorem byteAtP {s : ByteArray} {i : Nat} {c : UInt8} (h : s.data.toList[i]? = some c) (hi : i < s.size) : s[i] = c := by
  obtain ⟨h1, h2⟩ := List.getElem?_eq_some_iff.1 h
  rw [← h2]; rfl

theorem part_all {l : List UInt8} (h1 : 1 ≤ l.length) (h2 : l.length ≤ 40) (h3 : (l == [46]) = false) (h4 : (l == [46, 46]) = false) (h5 : ∀ (j : Nat) (c : UInt8), l[j]? = some c → partP (c.toNat : Int) = true) : partL l = true := by
  simp only [partL, h1, h2, h3, h4, decide_true, Bool.not_false, Bool.true_and, Bool.and_true, List.all_eq_true]
  intro c hc
  obtain ⟨j, hj⟩ := List.mem_iff_getElem?.1 hc
  exact h5 j c hj
theorem part_bad {l : List UInt8} {j : Nat} {c : UInt8} (h : l[j]? = some c) (hc : partP (c.toNat : Int) = false) : partL l = false := by
  have : (l.all fun c => partP (c.toNat : Int)) = false := by
    rw [List.all_eq_false]
    exact ⟨c, List.mem_of_getElem? h, by simp [hc]⟩
  rw [partL, this, Bool.and_false]

theorem part_cases (n : Int) : (97 ≤ n ∧ n ≤ 122 ∧ partP n = true) ∨ (digitP n = true ∧ ¬ 97 ≤ n ∧ partP n = true) ∨ (digitP n = false ∧ ¬ 97 ≤ n ∧ n = 45 ∧ partP n = true) ∨ (digitP n = false ∧ ¬ 97 ≤ n ∧ n = 95 ∧ partP n = true) ∨ (digitP n = false ∧ ¬ 97 ≤ n ∧ n = 46 ∧ partP n = true) ∨
    (digitP n = false ∧ ¬ 97 ≤ n ∧ ¬ n = 45 ∧ ¬ n = 95 ∧ ¬ n = 46 ∧ partP n = false) ∨ (digitP n = false ∧ 97 ≤ n ∧ ¬ n ≤ 122 ∧ ¬ n = 45 ∧ ¬ n = 95 ∧ ¬ n = 46 ∧ partP n = false) := by
  simp only [partP, smallP, digitP, Bool.or_eq_true, Bool.and_eq_true, decide_eq_true_eq, Bool.or_eq_false_iff, Bool.and_eq_false_iff, decide_eq_false_iff_not]
  omega

theorem shipDigit_any (n : Int) (v : Bool) (w : World) (h : digitP n = v) : Calls Tryz.prog 124 #[.int .u8 n] w fun e w' => e = .returned (.bool v) ∧ w = w' := by
  have H := Lib.hid h; clear h
  by_cases h0 : 48 ≤ n <;> by_cases h1 : n ≤ 57 <;>
  (go_enter Tryz.func124, Tryz.ntmps124
   go_wp2
   go_ret
   exact ⟨ret_bool (by rw [← H.out]; simp [digitP]; omega), rfl⟩)

theorem refDigit_any (n : Int) (v : Bool) (w : World) (h : digitP n = v) : Calls Tryz.prog 128 #[.int .u8 n] w fun e w' => e = .returned (.bool v) ∧ w = w' := by
  have H := Lib.hid h; clear h
  by_cases h0 : 48 ≤ n <;> by_cases h1 : n ≤ 57 <;>
  (go_enter Tryz.func128, Tryz.ntmps128
   go_wp2
   go_ret
   exact ⟨ret_bool (by rw [← H.out]; simp [digitP]; omega), rfl⟩)

theorem word_cases (n : Int) : (97 ≤ n ∧ n ≤ 122) ∨ (¬ 97 ≤ n ∧ digitP n = true) ∨ (¬ 97 ≤ n ∧ digitP n = false ∧ n = 95) ∨ (¬ 97 ≤ n ∧ digitP n = false ∧ ¬ n = 95) ∨ (97 ≤ n ∧ ¬ n ≤ 122 ∧ digitP n = false ∧ ¬ n = 95) := by
  simp only [digitP, Bool.and_eq_true, decide_eq_true_eq, Bool.and_eq_false_iff, decide_eq_false_iff_not]
  omega
set_option maxHeartbeats 1000000 in
theorem wordByte_any (n : Int) (v : Bool) (w : World) (h : (smallP n || digitP n || decide (n = 95)) = v) : Calls Tryz.prog 94 #[.int .u8 n] w fun e w' => e = .returned (.bool v) ∧ w = w' := by
  rcases word_cases n with ⟨h0, h1⟩ | ⟨h0, hd⟩ | ⟨h0, hd, h1⟩ | ⟨h0, hd, h1⟩ | ⟨h0, h1, hd, h2⟩
  · obtain rfl : true = v := by rw [← h]; simp [smallP, h0, h1]
    clear h
    go_enter Tryz.func94, Tryz.ntmps94
    go_wp2_with fail
    go_ret
    exact ⟨rfl, rfl⟩
  · obtain rfl : true = v := by rw [← h, hd]; simp
    clear h
    have HD := Lib.hid hd; clear hd
    go_enter Tryz.func94, Tryz.ntmps94
    go_wp2_with (go_at_call 128; go_must (refine (refDigit_any _ true _ HD.out).mono ?_); rintro e w1 ⟨rfl, rfl⟩)
    go_ret
    exact ⟨rfl, rfl⟩
  · subst h1
    obtain rfl : true = v := by rw [← h]; decide
    clear h
    go_enter Tryz.func94, Tryz.ntmps94
    go_wp2_with (go_at_call 128; go_must (refine (refDigit_any _ false _ (by decide)).mono ?_); rintro e w1 ⟨rfl, rfl⟩)
    go_ret
    exact ⟨rfl, rfl⟩
  · obtain rfl : false = v := by rw [← h, hd]; simp [smallP, h1]; omega
    clear h
    have HD := Lib.hid hd; clear hd
    go_enter Tryz.func94, Tryz.ntmps94
    go_wp2_with (go_at_call 128; go_must (refine (refDigit_any _ false _ HD.out).mono ?_); rintro e w1 ⟨rfl, rfl⟩)
    go_ret
    exact ⟨ret_bool (by simp [h1]), rfl⟩
  · obtain rfl : false = v := by rw [← h, hd]; simp [smallP, h2]; omega
    clear h
    have HD := Lib.hid hd; clear hd
    go_enter Tryz.func94, Tryz.ntmps94
    go_wp2_with (go_at_call 128; go_must (refine (refDigit_any _ false _ HD.out).mono ?_); rintro e w1 ⟨rfl, rfl⟩)
    go_ret
    exact ⟨ret_bool (by simp [h2]), rfl⟩

set_option maxHeartbeats 2000000 in
theorem shipPart_any (s : ByteArray) (v : Bool) (w : World) (h : partL s.data.toList = v) : Calls Tryz.prog 92 #[.string s] w fun e w' => e = .returned (.bool v) ∧ w = w' := by
  subst h
  by_cases hA : s.size = 0
  · have e0 : s.toList = [] := by have := size_toList s; rw [hA] at this; rw [Go.ByteArray.toList_eq]; exact List.eq_nil_of_length_eq_zero this
    have HR := Lib.hid (show partL s.data.toList = false by simp [partL, hA])
    go_enter Tryz.func92, Tryz.ntmps92
    go_wp2_with fail
    go_ret
    exact ⟨ret_bool HR.out.symm, rfl⟩
  have e0 : s.toList.isEmpty = false := by
    have hne : ¬ s.data.toList = [] := by intro hs; exact absurd (by rw [← size_toList, hs]; rfl) hA
    have h2 : ¬ s.toList = [] := by rw [Go.ByteArray.toList_eq]; exact hne
    cases hs : s.toList with | nil => exact absurd hs h2 | cons a r => rfl
  have hA1 : ¬ s.size < 1 := by omega
  by_cases hB : 40 < s.size
  · have HR := Lib.hid (show partL s.data.toList = false by simp only [partL, size_toList, show decide (s.size ≤ 40) = false by simp; omega, Bool.and_false, Bool.false_and])
    go_enter Tryz.func92, Tryz.ntmps92
    go_wp2_with fail
    go_ret
    exact ⟨ret_bool HR.out.symm, rfl⟩
  cases e1 : s.data.toList == [46]
  case true =>
    have HR := Lib.hid (show partL s.data.toList = false by simp only [partL, e1, Bool.not_true, Bool.and_false, Bool.false_and])
    have f1 : s.toList = [46] := by rw [Go.ByteArray.toList_eq]; exact eq_of_beq e1
    have f2 : s.size = 1 := by have := size_toList s; rw [eq_of_beq e1] at this; simpa using this.symm
    clear e1
    go_enter Tryz.func92, Tryz.ntmps92
    go_wp2_with fail
    go_ret
    exact ⟨ret_bool HR.out.symm, rfl⟩
  cases e2 : s.data.toList == [46, 46]
  case true =>
    have HR := Lib.hid (show partL s.data.toList = false by simp only [partL, e2, Bool.not_true, Bool.and_false, Bool.false_and])
    have f1 : s.toList = [46, 46] := by rw [Go.ByteArray.toList_eq]; exact eq_of_beq e2
    have f2 : s.size = 2 := by have := size_toList s; rw [eq_of_beq e2] at this; simpa using this.symm
    clear e1 e2
    go_enter Tryz.func92, Tryz.ntmps92
    go_wp2_with fail
    go_ret
    exact ⟨ret_bool HR.out.symm, rfl⟩
  have HAll := Lib.hid (fun (h5 : ∀ (j : Nat) (c : UInt8), s.data.toList[j]? = some c → partP (c.toNat : Int) = true) => part_all (l := s.data.toList) (by rw [size_toList]; omega) (by rw [size_toList]; omega) e1 e2 h5)
  have f1 : (s.toList == [46]) = false := by rw [Go.ByteArray.toList_eq]; exact e1
  have f2 : (s.toList == [46, 46]) = false := by rw [Go.ByteArray.toList_eq]; exact e2
  go_enter Tryz.func92, Tryz.ntmps92
  go_wp2_with fail
  clear e0 e1 e2 f1 f2
  go_loopw [3] (fun t w2 => ∃ k : Nat, k ≤ s.size ∧ t = .int .i64 k ∧ EqW w2 w ∧ ∀ (j : Nat) (c : UInt8), s.data.toList[j]? = some c → j < k → partP (c.toNat : Int) = true) (fun t _ => s.size - (intOf t).toNat)
  case atStart => exact ⟨0, Nat.zero_le _, rfl, EqW.refl _, fun j c _ h => absurd h (by omega)⟩
  case round =>
    obtain ⟨k, hk, rfl, hww, hall0⟩ := hrel
    unfold EqW at hww
    subst hww
    have hall := Lib.hid hall0; clear hall0
    by_cases hlt : k < s.size
    · obtain ⟨ch, hch0⟩ : ∃ b, s.data.toList[k]? = some b := ⟨_, List.getElem?_eq_getElem (by rw [size_toList]; exact hlt)⟩
      have hch := Lib.hid hch0; clear hch0
      have hsb : s[k] = ch := byteAtP hch.out hlt
      subst hsb
      rcases part_cases (s[k].toNat : Int) with h1 | h1 | h1 | h1 | h1 | h1 | h1
      · obtain ⟨d1, d2, hp⟩ := h1
        have HP := Lib.hid hp; clear hp
        have HD := Lib.hid (show digitP (s[k].toNat : Int) = false by simp [digitP]; omega)
        go_wp2_with (go_at_call 124; go_must (refine (shipDigit_any _ _ _ HD.out).mono ?_); rintro e w1 ⟨rfl, rfl⟩)
        go_roundw
        case rel =>
          refine ⟨k + 1, by omega, by go_num, EqW.refl _, fun j c h3 h4 => ?_⟩
          rcases Nat.lt_succ_iff_lt_or_eq.1 h4 with h5 | rfl
          · exact hall.out j c h3 h5
          · rw [hch.out] at h3
            cases h3
            exact HP.out
        case measure => simp [intOf]; omega
      · obtain ⟨hdg, d1, hp⟩ := h1
        have HP := Lib.hid hp; clear hp
        have HD := Lib.hid hdg; clear hdg
        go_wp2_with (go_at_call 124; go_must (refine (shipDigit_any _ _ _ HD.out).mono ?_); rintro e w1 ⟨rfl, rfl⟩)
        go_roundw
        case rel =>
          refine ⟨k + 1, by omega, by go_num, EqW.refl _, fun j c h3 h4 => ?_⟩
          rcases Nat.lt_succ_iff_lt_or_eq.1 h4 with h5 | rfl
          · exact hall.out j c h3 h5
          · rw [hch.out] at h3
            cases h3
            exact HP.out
        case measure => simp [intOf]; omega
      · obtain ⟨hdg, d1, d2, hp⟩ := h1
        have HP := Lib.hid hp; clear hp
        have HD := Lib.hid hdg; clear hdg
        go_wp2_with (go_at_call 124; go_must (refine (shipDigit_any _ false _ (by decide)).mono ?_); rintro e w1 ⟨rfl, rfl⟩)
        go_roundw
        case rel =>
          refine ⟨k + 1, by omega, by go_num, EqW.refl _, fun j c h3 h4 => ?_⟩
          rcases Nat.lt_succ_iff_lt_or_eq.1 h4 with h5 | rfl
          · exact hall.out j c h3 h5
          · rw [hch.out] at h3
            cases h3
            exact HP.out
        case measure => simp [intOf]; omega
      · obtain ⟨hdg, d1, d2, hp⟩ := h1
        have HP := Lib.hid hp; clear hp
        have HD := Lib.hid hdg; clear hdg
        go_wp2_with (go_at_call 124; go_must (refine (shipDigit_any _ false _ (by decide)).mono ?_); rintro e w1 ⟨rfl, rfl⟩)
        go_roundw
        case rel =>
          refine ⟨k + 1, by omega, by go_num, EqW.refl _, fun j c h3 h4 => ?_⟩
          rcases Nat.lt_succ_iff_lt_or_eq.1 h4 with h5 | rfl
          · exact hall.out j c h3 h5
          · rw [hch.out] at h3
            cases h3
            exact HP.out
        case measure => simp [intOf]; omega
      · obtain ⟨hdg, d1, d2, hp⟩ := h1
        have HP := Lib.hid hp; clear hp
        have HD := Lib.hid hdg; clear hdg
        go_wp2_with (go_at_call 124; go_must (refine (shipDigit_any _ false _ (by decide)).mono ?_); rintro e w1 ⟨rfl, rfl⟩)
        go_roundw
        case rel =>
          refine ⟨k + 1, by omega, by go_num, EqW.refl _, fun j c h3 h4 => ?_⟩
          rcases Nat.lt_succ_iff_lt_or_eq.1 h4 with h5 | rfl
          · exact hall.out j c h3 h5
          · rw [hch.out] at h3
            cases h3
            exact HP.out
        case measure => simp [intOf]; omega
      · obtain ⟨hdg, d1, d2, d3, d4, hp⟩ := h1
        have HP := Lib.hid hp; clear hp
        have HD := Lib.hid hdg; clear hdg
        have b45 : ((s[k].toNat : Int) == 45) = false := by simpa using d2
        have c45 : ((s[k].toNat : Int) != 45) = true := by simpa using d2
        have b95 : ((s[k].toNat : Int) == 95) = false := by simpa using d3
        have c95 : ((s[k].toNat : Int) != 95) = true := by simpa using d3
        have b46 : ((s[k].toNat : Int) == 46) = false := by simpa using d4
        have c46 : ((s[k].toNat : Int) != 46) = true := by simpa using d4
        go_wp2_with (go_at_call 124; go_must (refine (shipDigit_any _ _ _ HD.out).mono ?_); rintro e w1 ⟨rfl, rfl⟩)
        go_ret
        exact ⟨ret_bool (part_bad hch.out HP.out).symm, rfl⟩
      · obtain ⟨hdg, d1, d2, d3, d4, d5, hp⟩ := h1
        have HP := Lib.hid hp; clear hp
        have HD := Lib.hid hdg; clear hdg
        have b45 : ((s[k].toNat : Int) == 45) = false := by simpa using d3
        have c45 : ((s[k].toNat : Int) != 45) = true := by simpa using d3
        have b95 : ((s[k].toNat : Int) == 95) = false := by simpa using d4
        have c95 : ((s[k].toNat : Int) != 95) = true := by simpa using d4
        have b46 : ((s[k].toNat : Int) == 46) = false := by simpa using d5
        have c46 : ((s[k].toNat : Int) != 46) = true := by simpa using d5
        go_wp2_with (go_at_call 124; go_must (refine (shipDigit_any _ _ _ HD.out).mono ?_); rintro e w1 ⟨rfl, rfl⟩)
        go_ret
        exact ⟨ret_bool (part_bad hch.out HP.out).symm, rfl⟩
    · have HR := Lib.hid (HAll.out (fun j c h3 => hall.out j c h3 (by have := (List.getElem?_eq_some_iff.1 h3).1; rw [size_toList] at this; omega)))
      clear hall
      go_wp2_with fail
      go_ret
      exact ⟨ret_bool HR.out.symm, rfl⟩

set_option maxHeartbeats 2000000 in
theorem refPart_any (s : ByteArray) (v : Bool) (w : World) (h : partL s.data.toList = v) : Calls Tryz.prog 55 #[.string s] w fun e w' => e = .returned (.bool v) ∧ w = w' := by
  subst h
  by_cases hA : s.size = 0
  · have e0 : s.toList = [] := by have := size_toList s; rw [hA] at this; rw [Go.ByteArray.toList_eq]; exact List.eq_nil_of_length_eq_zero this
    have HR := Lib.hid (show partL s.data.toList = false by simp [partL, hA])
    go_enter Tryz.func55, Tryz.ntmps55
    go_wp2_with fail
    go_ret
    exact ⟨ret_bool HR.out.symm, rfl⟩
  have e0 : s.toList.isEmpty = false := by
    have hne : ¬ s.data.toList = [] := by intro hs; exact absurd (by rw [← size_toList, hs]; rfl) hA
    have h2 : ¬ s.toList = [] := by rw [Go.ByteArray.toList_eq]; exact hne
    cases hs : s.toList with | nil => exact absurd hs h2 | cons a r => rfl
  have hA1 : ¬ s.size < 1 := by omega
  by_cases hB : 40 < s.size
  · have HR := Lib.hid (show partL s.data.toList = false by simp only [partL, size_toList, show decide (s.size ≤ 40) = false by simp; omega, Bool.and_false, Bool.false_and])
    go_enter Tryz.func55, Tryz.ntmps55
    go_wp2_with fail
    go_ret
    exact ⟨ret_bool HR.out.symm, rfl⟩
  cases e1 : s.data.toList == [46]
  case true =>
    have HR := Lib.hid (show partL s.data.toList = false by simp only [partL, e1, Bool.not_true, Bool.and_false, Bool.false_and])
    have f1 : s.toList = [46] := by rw [Go.ByteArray.toList_eq]; exact eq_of_beq e1
    have f2 : s.size = 1 := by have := size_toList s; rw [eq_of_beq e1] at this; simpa using this.symm
    clear e1
    go_enter Tryz.func55, Tryz.ntmps55
    go_wp2_with fail
    go_ret
    exact ⟨ret_bool HR.out.symm, rfl⟩
  cases e2 : s.data.toList == [46, 46]
  case true =>
    have HR := Lib.hid (show partL s.data.toList = false by simp only [partL, e2, Bool.not_true, Bool.and_false, Bool.false_and])
    have f1 : s.toList = [46, 46] := by rw [Go.ByteArray.toList_eq]; exact eq_of_beq e2
    have f2 : s.size = 2 := by have := size_toList s; rw [eq_of_beq e2] at this; simpa using this.symm
    clear e1 e2
    go_enter Tryz.func55, Tryz.ntmps55
    go_wp2_with fail
    go_ret
    exact ⟨ret_bool HR.out.symm, rfl⟩
  have HAll := Lib.hid (fun (h5 : ∀ (j : Nat) (c : UInt8), s.data.toList[j]? = some c → partP (c.toNat : Int) = true) => part_all (l := s.data.toList) (by rw [size_toList]; omega) (by rw [size_toList]; omega) e1 e2 h5)
  have f1 : (s.toList == [46]) = false := by rw [Go.ByteArray.toList_eq]; exact e1
  have f2 : (s.toList == [46, 46]) = false := by rw [Go.ByteArray.toList_eq]; exact e2
  go_enter Tryz.func55, Tryz.ntmps55
  go_wp2_with fail
  clear e0 e1 e2 f1 f2
  go_loopw [3] (fun t w2 => ∃ k : Nat, k ≤ s.size ∧ t = .int .i64 k ∧ EqW w2 w ∧ ∀ (j : Nat) (c : UInt8), s.data.toList[j]? = some c → j < k → partP (c.toNat : Int) = true) (fun t _ => s.size - (intOf t).toNat)
  case atStart => exact ⟨0, Nat.zero_le _, rfl, EqW.refl _, fun j c _ h => absurd h (by omega)⟩
  case round =>
    obtain ⟨k, hk, rfl, hww, hall0⟩ := hrel
    unfold EqW at hww
    subst hww
    have hall := Lib.hid hall0; clear hall0
    by_cases hlt : k < s.size
    · obtain ⟨ch, hch0⟩ : ∃ b, s.data.toList[k]? = some b := ⟨_, List.getElem?_eq_getElem (by rw [size_toList]; exact hlt)⟩
      have hch := Lib.hid hch0; clear hch0
      have hsb : s[k] = ch := byteAtP hch.out hlt
      subst hsb
      rcases part_cases (s[k].toNat : Int) with h1 | h1 | h1 | h1 | h1 | h1 | h1
      · obtain ⟨d1, d2, hp⟩ := h1
        have HP := Lib.hid hp; clear hp
        have HD := Lib.hid (show digitP (s[k].toNat : Int) = false by simp [digitP]; omega)
        have HWB := Lib.hid (show (smallP (s[k].toNat : Int) || digitP (s[k].toNat : Int) || decide ((s[k].toNat : Int) = 95)) = true by rw [HD.out]; simp [smallP] <;> omega)
        go_wp2_with (go_at_call 94; go_must (refine (wordByte_any _ _ _ HWB.out).mono ?_); rintro e w1 ⟨rfl, rfl⟩)
        go_roundw
        case rel =>
          refine ⟨k + 1, by omega, by go_num, EqW.refl _, fun j c h3 h4 => ?_⟩
          rcases Nat.lt_succ_iff_lt_or_eq.1 h4 with h5 | rfl
          · exact hall.out j c h3 h5
          · rw [hch.out] at h3
            cases h3
            exact HP.out
        case measure => simp [intOf]; omega
      · obtain ⟨hdg, d1, hp⟩ := h1
        have HP := Lib.hid hp; clear hp
        have HD := Lib.hid hdg; clear hdg
        have HWB := Lib.hid (show (smallP (s[k].toNat : Int) || digitP (s[k].toNat : Int) || decide ((s[k].toNat : Int) = 95)) = true by rw [HD.out]; simp [smallP] <;> omega)
        go_wp2_with (go_at_call 94; go_must (refine (wordByte_any _ _ _ HWB.out).mono ?_); rintro e w1 ⟨rfl, rfl⟩)
        go_roundw
        case rel =>
          refine ⟨k + 1, by omega, by go_num, EqW.refl _, fun j c h3 h4 => ?_⟩
          rcases Nat.lt_succ_iff_lt_or_eq.1 h4 with h5 | rfl
          · exact hall.out j c h3 h5
          · rw [hch.out] at h3
            cases h3
            exact HP.out
        case measure => simp [intOf]; omega
      · obtain ⟨hdg, d1, d2, hp⟩ := h1
        have HP := Lib.hid hp; clear hp
        have HD := Lib.hid hdg; clear hdg
        have HWB := Lib.hid (show (smallP (s[k].toNat : Int) || digitP (s[k].toNat : Int) || decide ((s[k].toNat : Int) = 95)) = false by rw [HD.out]; simp [smallP] <;> omega)
        go_wp2_with (go_at_call 94; go_must (refine (wordByte_any _ false _ (by decide)).mono ?_); rintro e w1 ⟨rfl, rfl⟩)
        go_roundw
        case rel =>
          refine ⟨k + 1, by omega, by go_num, EqW.refl _, fun j c h3 h4 => ?_⟩
          rcases Nat.lt_succ_iff_lt_or_eq.1 h4 with h5 | rfl
          · exact hall.out j c h3 h5
          · rw [hch.out] at h3
            cases h3
            exact HP.out
        case measure => simp [intOf]; omega
      · obtain ⟨hdg, d1, d2, hp⟩ := h1
        have HP := Lib.hid hp; clear hp
        have HD := Lib.hid hdg; clear hdg
        have HWB := Lib.hid (show (smallP (s[k].toNat : Int) || digitP (s[k].toNat : Int) || decide ((s[k].toNat : Int) = 95)) = true by rw [HD.out]; simp [smallP] <;> omega)
        go_wp2_with (go_at_call 94; go_must (refine (wordByte_any _ true _ (by decide)).mono ?_); rintro e w1 ⟨rfl, rfl⟩)
        go_roundw
        case rel =>
          refine ⟨k + 1, by omega, by go_num, EqW.refl _, fun j c h3 h4 => ?_⟩
          rcases Nat.lt_succ_iff_lt_or_eq.1 h4 with h5 | rfl
          · exact hall.out j c h3 h5
          · rw [hch.out] at h3
            cases h3
            exact HP.out
        case measure => simp [intOf]; omega
      · obtain ⟨hdg, d1, d2, hp⟩ := h1
        have HP := Lib.hid hp; clear hp
        have HD := Lib.hid hdg; clear hdg
        have HWB := Lib.hid (show (smallP (s[k].toNat : Int) || digitP (s[k].toNat : Int) || decide ((s[k].toNat : Int) = 95)) = false by rw [HD.out]; simp [smallP] <;> omega)
        go_wp2_with (go_at_call 94; go_must (refine (wordByte_any _ false _ (by decide)).mono ?_); rintro e w1 ⟨rfl, rfl⟩)
        go_roundw
        case rel =>
          refine ⟨k + 1, by omega, by go_num, EqW.refl _, fun j c h3 h4 => ?_⟩
          rcases Nat.lt_succ_iff_lt_or_eq.1 h4 with h5 | rfl
          · exact hall.out j c h3 h5
          · rw [hch.out] at h3
            cases h3
            exact HP.out
        case measure => simp [intOf]; omega
      · obtain ⟨hdg, d1, d2, d3, d4, hp⟩ := h1
        have HP := Lib.hid hp; clear hp
        have HD := Lib.hid hdg; clear hdg
        have HWB := Lib.hid (show (smallP (s[k].toNat : Int) || digitP (s[k].toNat : Int) || decide ((s[k].toNat : Int) = 95)) = false by rw [HD.out]; simp [smallP] <;> omega)
        have b45 : ((s[k].toNat : Int) == 45) = false := by simpa using d2
        have c45 : ((s[k].toNat : Int) != 45) = true := by simpa using d2
        have b95 : ((s[k].toNat : Int) == 95) = false := by simpa using d3
        have c95 : ((s[k].toNat : Int) != 95) = true := by simpa using d3
        have b46 : ((s[k].toNat : Int) == 46) = false := by simpa using d4
        have c46 : ((s[k].toNat : Int) != 46) = true := by simpa using d4
        go_wp2_with (go_at_call 94; go_must (refine (wordByte_any _ _ _ HWB.out).mono ?_); rintro e w1 ⟨rfl, rfl⟩)
        go_ret
        exact ⟨ret_bool (part_bad hch.out HP.out).symm, rfl⟩
      · obtain ⟨hdg, d1, d2, d3, d4, d5, hp⟩ := h1
        have HP := Lib.hid hp; clear hp
        have HD := Lib.hid hdg; clear hdg
        have HWB := Lib.hid (show (smallP (s[k].toNat : Int) || digitP (s[k].toNat : Int) || decide ((s[k].toNat : Int) = 95)) = false by rw [HD.out]; simp [smallP] <;> omega)
        have b45 : ((s[k].toNat : Int) == 45) = false := by simpa using d3
        have c45 : ((s[k].toNat : Int) != 45) = true := by simpa using d3
        have b95 : ((s[k].toNat : Int) == 95) = false := by simpa using d4
        have c95 : ((s[k].toNat : Int) != 95) = true := by simpa using d4
        have b46 : ((s[k].toNat : Int) == 46) = false := by simpa using d5
        have c46 : ((s[k].toNat : Int) != 46) = true := by simpa using d5
        go_wp2_with (go_at_call 94; go_must (refine (wordByte_any _ _ _ HWB.out).mono ?_); rintro e w1 ⟨rfl, rfl⟩)
        go_ret
        exact ⟨ret_bool (part_bad hch.out HP.out).symm, rfl⟩
    · have HR := Lib.hid (HAll.out (fun j c h3 => hall.out j c h3 (by have := (List.getElem?_eq_some_iff.1 h3).1; rw [size_toList] at this; omega)))
      clear hall
      go_wp2_with fail
      go_ret
      exact ⟨ret_bool HR.out.symm, rfl⟩

end Go.Proofs.YtbhildmalcfhiaaGreatDoor

namespace Go.Proofs.YtbhildmalcfhiaaGreatDoor
open Go.RowKit Go.Deep

/-- a path: parts with strokes between them, of 200 bytes together at most -/
def pathB (s : ByteArray) : Bool := decide (s.size ≤ 200) && (Lib.splitB ⟨#[47]⟩ 0 (Lib.countB s ⟨#[47]⟩) s).all fun p => partL p.data.toList

theorem cell_laid (w : World) (l : List ByteArray) (t k : Nat) (p : ByteArray) (h : l[k]? = some p) : (w.alloc (.cells (l.map Value.string).toArray t)).cell? ⟨w.heap.size, k, none⟩ = some (.string p) := by
  refine cell_new w (l.map Value.string) t w.heap.size rfl k _ ?_
  rw [List.getElem?_map, h]; rfl

theorem path_bad {s : ByteArray} {l : List ByteArray} {k : Nat} {p : ByteArray} (hl : Lib.splitB ⟨#[47]⟩ 0 (Lib.countB s ⟨#[47]⟩) s = l) (h : l[k]? = some p) (hp : partL p.data.toList = false) : pathB s = false := by
  have : (l.all fun p => partL p.data.toList) = false := by
    rw [List.all_eq_false]
    exact ⟨p, List.mem_of_getElem? h, by simp [hp]⟩
  rw [pathB, hl, this, Bool.and_false]
theorem path_all {s : ByteArray} {l : List ByteArray} (hs : s.size ≤ 200) (hl : Lib.splitB ⟨#[47]⟩ 0 (Lib.countB s ⟨#[47]⟩) s = l) (h : ∀ (j : Nat) (p : ByteArray), l[j]? = some p → partL p.data.toList = true) : pathB s = true := by
  simp only [pathB, hl, hs, decide_true, Bool.true_and, List.all_eq_true]
  intro c hc
  obtain ⟨j, hj⟩ := List.mem_iff_getElem?.1 hc
  exact h j c hj
theorem path_empty {s : ByteArray} (h : s.size = 0) : pathB s = false := by
  obtain ⟨⟨l⟩⟩ := s
  have : l = [] := List.eq_nil_of_length_eq_zero h
  subst this
  have hx : Lib.indexB ⟨#[]⟩ ⟨#[47]⟩ = -1 := by decide +kernel
  have h1 : Lib.splitB ⟨#[47]⟩ 0 (Lib.countB ⟨#[]⟩ ⟨#[47]⟩) ⟨#[]⟩ = [⟨#[]⟩] := Lib.splitB_miss _ _ _ _ hx
  exact path_bad (k := 0) h1 rfl (by decide)

set_option maxHeartbeats 1000000 in
theorem shipPath_any (s : ByteArray) (v : Bool) (m : Int) (w : World) (hm : w.cell? ⟨2, 0, none⟩ = some (.int .i64 m)) (h : pathB s = v) :
    Calls Tryz.prog 53 #[.string s] w fun e w' => e = .returned (.bool v) ∧ Below w.heap.size w w' := by
  subst h
  by_cases hB : 200 < s.size
  · have HR := Lib.hid (show pathB s = false by simp only [pathB, show decide (s.size ≤ 200) = false by simp; omega, Bool.false_and])
    go_enter Tryz.func53, Tryz.ntmps53
    go_wp2_with fail
    go_ret
    exact ⟨ret_bool HR.out.symm, Below.refl _ _⟩
  have hsp := Tryz.strings_Split s ⟨#[47]⟩ m w (by omega) hm (by decide)
  obtain ⟨l, hl⟩ : ∃ l, Lib.splitB ⟨#[47]⟩ 0 (Lib.countB s ⟨#[47]⟩) s = l := ⟨_, rfl⟩
  have hlen : l.length = Lib.countB s ⟨#[47]⟩ + 1 := by rw [← hl]; exact Lib.splitB_all _ (by decide) _ _ _ rfl
  have hcl := Lib.countB_le ⟨#[47]⟩ (by decide) s.size s (Nat.le_refl _)
  rw [hl, ← hlen] at hsp
  have hl200 : l.length ≤ 201 := by omega
  have HL := Lib.hid hl; clear hl hlen hcl hm
  have HSP := Lib.hid hsp; clear hsp
  go_enter Tryz.func53, Tryz.ntmps53
  go_wp2_with (go_at_call 54; go_must (refine HSP.out.mono ?_); rintro e w1 ⟨rfl, rfl⟩)
  obtain ⟨w1, hw1⟩ : ∃ w1, w.alloc (.cells (l.map Value.string).toArray 9) = w1 := ⟨_, rfl⟩
  have HC := Lib.hid (fun k p h => hw1 ▸ cell_laid w l 9 k p h)
  have HB := Lib.hid (show Below w.heap.size w w1 from hw1 ▸ (Below.refl _ _).alloc (Nat.le_refl _) _)
  rw [hw1]
  clear hw1
  go_loopw [11] (fun t w2 => ∃ k : Nat, k ≤ l.length ∧ t = .int .i64 k ∧ EqW w2 w1 ∧ ∀ (j : Nat) (p : ByteArray), l[j]? = some p → j < k → partL p.data.toList = true) (fun t _ => l.length - (intOf t).toNat)
  case atStart => exact ⟨0, Nat.zero_le _, rfl, EqW.refl _, fun j c _ h => absurd h (by omega)⟩
  case round =>
    obtain ⟨k, hk, rfl, hww, hall0⟩ := hrel
    unfold EqW at hww
    subst hww
    have hall := Lib.hid hall0; clear hall0
    by_cases hlt : k < l.length
    · obtain ⟨p, hp⟩ : ∃ p, l[k]? = some p := ⟨_, List.getElem?_eq_getElem hlt⟩
      have p0 := HC.out k p hp
      have HP := Lib.hid hp; clear hp
      obtain ⟨b, hb⟩ : ∃ b, partL p.data.toList = b := ⟨_, rfl⟩
      have HBB := Lib.hid hb; clear hb
      cases b
      · go_wp2_with (go_at_call 92; go_must (refine (shipPart_any p false _ HBB.out).mono ?_); rintro e w3 ⟨rfl, rfl⟩)
        go_ret
        exact ⟨ret_bool (path_bad HL.out HP.out HBB.out).symm, HB.out⟩
      · go_wp2_with (go_at_call 92; go_must (refine (shipPart_any p true _ HBB.out).mono ?_); rintro e w3 ⟨rfl, rfl⟩)
        go_roundw
        case rel =>
          refine ⟨k + 1, by omega, by go_num, EqW.refl _, fun j c h3 h4 => ?_⟩
          rcases Nat.lt_succ_iff_lt_or_eq.1 h4 with h5 | rfl
          · exact hall.out j c h3 h5
          · rw [HP.out] at h3
            cases h3
            exact HBB.out
        case measure => simp [intOf]; omega
    · have HR := Lib.hid (path_all (s := s) (by omega) HL.out (fun j c h3 => hall.out j c h3 (by have := (List.getElem?_eq_some_iff.1 h3).1; omega)))
      clear hall
      go_wp2_with fail
      go_ret
      exact ⟨ret_bool HR.out.symm, HB.out⟩

set_option maxHeartbeats 1000000 in
theorem refPath_any (s : ByteArray) (v : Bool) (m : Int) (w : World) (hm : w.cell? ⟨2, 0, none⟩ = some (.int .i64 m)) (h : pathB s = v) :
    Calls Tryz.prog 27 #[.string s] w fun e w' => e = .returned (.bool v) ∧ Below w.heap.size w w' := by
  subst h
  by_cases hA : s.size = 0
  · have HR := Lib.hid (path_empty hA)
    go_enter Tryz.func27, Tryz.ntmps27
    go_wp2_with fail
    go_ret
    exact ⟨ret_bool HR.out.symm, Below.refl _ _⟩
  have hA1 : ¬ s.size < 1 := by omega
  by_cases hB : 200 < s.size
  · have HR := Lib.hid (show pathB s = false by simp only [pathB, show decide (s.size ≤ 200) = false by simp; omega, Bool.false_and])
    go_enter Tryz.func27, Tryz.ntmps27
    go_wp2_with fail
    go_ret
    exact ⟨ret_bool HR.out.symm, Below.refl _ _⟩
  have hsp := Tryz.strings_Split s ⟨#[47]⟩ m w (by omega) hm (by decide)
  obtain ⟨l, hl⟩ : ∃ l, Lib.splitB ⟨#[47]⟩ 0 (Lib.countB s ⟨#[47]⟩) s = l := ⟨_, rfl⟩
  have hlen : l.length = Lib.countB s ⟨#[47]⟩ + 1 := by rw [← hl]; exact Lib.splitB_all _ (by decide) _ _ _ rfl
  have hcl := Lib.countB_le ⟨#[47]⟩ (by decide) s.size s (Nat.le_refl _)
  rw [hl, ← hlen] at hsp
  have hl200 : l.length ≤ 201 := by omega
  have HL := Lib.hid hl; clear hl hlen hcl hm
  have HSP := Lib.hid hsp; clear hsp
  go_enter Tryz.func27, Tryz.ntmps27
  go_wp2_with (go_at_call 54; go_must (refine HSP.out.mono ?_); rintro e w1 ⟨rfl, rfl⟩)
  obtain ⟨w1, hw1⟩ : ∃ w1, w.alloc (.cells (l.map Value.string).toArray 9) = w1 := ⟨_, rfl⟩
  have HC := Lib.hid (fun k p h => hw1 ▸ cell_laid w l 9 k p h)
  have HB := Lib.hid (show Below w.heap.size w w1 from hw1 ▸ (Below.refl _ _).alloc (Nat.le_refl _) _)
  rw [hw1]
  clear hw1
  go_loopw [16] (fun t w2 => ∃ k : Nat, k ≤ l.length ∧ t = .int .i64 k ∧ EqW w2 w1 ∧ ∀ (j : Nat) (p : ByteArray), l[j]? = some p → j < k → partL p.data.toList = true) (fun t _ => l.length - (intOf t).toNat)
  case atStart => exact ⟨0, Nat.zero_le _, rfl, EqW.refl _, fun j c _ h => absurd h (by omega)⟩
  case round =>
    obtain ⟨k, hk, rfl, hww, hall0⟩ := hrel
    unfold EqW at hww
    subst hww
    have hall := Lib.hid hall0; clear hall0
    by_cases hlt : k < l.length
    · obtain ⟨p, hp⟩ : ∃ p, l[k]? = some p := ⟨_, List.getElem?_eq_getElem hlt⟩
      have p0 := HC.out k p hp
      have HP := Lib.hid hp; clear hp
      obtain ⟨b, hb⟩ : ∃ b, partL p.data.toList = b := ⟨_, rfl⟩
      have HBB := Lib.hid hb; clear hb
      cases b
      · go_wp2_with (go_at_call 55; go_must (refine (refPart_any p false _ HBB.out).mono ?_); rintro e w3 ⟨rfl, rfl⟩)
        go_ret
        exact ⟨ret_bool (path_bad HL.out HP.out HBB.out).symm, HB.out⟩
      · go_wp2_with (go_at_call 55; go_must (refine (refPart_any p true _ HBB.out).mono ?_); rintro e w3 ⟨rfl, rfl⟩)
        go_roundw
        case rel =>
          refine ⟨k + 1, by omega, by go_num, EqW.refl _, fun j c h3 h4 => ?_⟩
          rcases Nat.lt_succ_iff_lt_or_eq.1 h4 with h5 | rfl
          · exact hall.out j c h3 h5
          · rw [HP.out] at h3
            cases h3
            exact HBB.out
        case measure => simp [intOf]; omega
    · have HR := Lib.hid (path_all (s := s) (by omega) HL.out (fun j c h3 => hall.out j c h3 (by have := (List.getElem?_eq_some_iff.1 h3).1; omega)))
      clear hall
      go_wp2_with fail
      go_ret
      exact ⟨ret_bool HR.out.symm, HB.out⟩

end Go.Proofs.YtbhildmalcfhiaaGreatDoor

namespace Go.Proofs.YtbhildmalcfhiaaGreatDoor
open Go.RowKit Go.Deep

/-- index.html -/
def idx : List UInt8 := [105, 110, 100, 101, 120, 46, 104, 116, 109, 108]
def addrL (l : List UInt8) : List UInt8 := if Lib.hasSuffix (47 :: l) (47 :: idx) then (47 :: l).take (l.length - 9) else 47 :: l
def addrS (s : ByteArray) : ByteArray := ⟨(if pathB s then addrL s.data.toList else []).toArray⟩
def errI (b : Bool) : Int := if b then 0 else 3
theorem addrS_no {s : ByteArray} (h : pathB s = false) : addrS s = ⟨#[]⟩ := by rw [addrS, h]; rfl
theorem addrS_yes {s : ByteArray} (h : pathB s = true) : (addrS s).data.toList = addrL s.data.toList := by rw [addrS, h]; rfl
def pathS (s : ByteArray) : ByteArray := if Lib.hasSuffix s.data.toList [47] then s.extract 1 s.size ++ ⟨#[105, 110, 100, 101, 120, 46, 104, 116, 109, 108]⟩ else s.extract 1 s.size

theorem hasSuffix_v (s p : ByteArray) (v : Bool) (w : World) (hs : s.size ≤ 9223372036854775807) (h : Lib.hasSuffix s.data.toList p.data.toList = v) :
    Calls Tryz.prog 57 #[.string s, .string p] w fun e w' => e = .returned (.bool v) ∧ w = w' := by
  subst h
  exact (Tryz.strings_HasSuffix s p w hs).mono fun e w' ⟨h1, h2⟩ => ⟨h1, h2.symm⟩
theorem hasPrefix_v (s p : ByteArray) (v : Bool) (w : World) (h : Lib.hasPrefix s.data.toList p.data.toList = v) :
    Calls Tryz.prog 28 #[.string s, .string p] w fun e w' => e = .returned (.bool v) ∧ w = w' := by
  subst h
  exact (Tryz.strings_HasPrefix s p w).mono fun e w' ⟨h1, h2⟩ => ⟨h1, h2.symm⟩
theorem trimSuffix_v (s p : ByteArray) (w : World) (hs : s.size ≤ 9223372036854775807) (h : Lib.hasSuffix s.data.toList p.data.toList = true) :
    Calls Tryz.prog 152 #[.string s, .string p] w fun e w' => e = .returned (.string ⟨(s.data.toList.take (s.data.toList.length - p.data.toList.length)).toArray⟩) ∧ w = w' := by
  refine (Tryz.strings_TrimSuffix s p w hs).mono fun e w' ⟨h1, h2⟩ => ⟨?_, h2.symm⟩
  rw [h1, Lib.trimSuffix, if_pos h]

theorem ret_sp {a a' : ByteArray} {n n' : Int} (h : a.data.toList = a'.data.toList) (hn : n = n') : Ending.returned (.tuple #[.string a, .int .i64 n]) = .returned (.tuple #[.string a', .int .i64 n']) := by
  rw [Go.WideShapes.bytes_inj h, hn]
theorem app_list (a b : ByteArray) : (a ++ b).data.toList = a.data.toList ++ b.data.toList := by simp
theorem path_size {s : ByteArray} (h : pathB s = true) : s.size ≤ 200 := by
  simp only [pathB, Bool.and_eq_true, decide_eq_true_eq] at h
  exact h.1
set_option maxHeartbeats 1000000 in
theorem shipAddress_any (s : ByteArray) (v : Bool) (hp : pathB s = v) (m : Int) (w : World) (hm : w.cell? ⟨2, 0, none⟩ = some (.int .i64 m)) :
    Calls Tryz.prog 114 #[.string s] w fun e w' => e = .returned (.tuple #[.string (addrS s), .int .i64 (errI v)]) ∧ Below w.heap.size w w' := by
  have HM := Lib.hid hm; clear hm
  cases v
  · have HP := Lib.hid hp; clear hp
    go_enter Tryz.func114, Tryz.ntmps114
    go_wp2_with (go_at_call 53; go_must (refine (shipPath_any s false m _ HM.out HP.out).mono ?_); rintro e w1 ⟨rfl, hb⟩; have HB := Lib.hid hb; clear hb)
    go_ret2
    exact ⟨ret_sp (by rw [addrS_no HP.out]) rfl, HB.out⟩
  · have hsz := path_size hp
    have HP := Lib.hid hp; clear hp
    have hs1 : ((⟨#[47]⟩ : ByteArray) ++ s).data.toList = 47 :: s.data.toList := by rw [app_list]; rfl
    have hs2 : ((⟨#[47]⟩ : ByteArray) ++ s).size ≤ 9223372036854775807 := by rw [← size_toList, hs1, List.length_cons, size_toList]; omega
    have H1 := Lib.hid hs1; clear hs1
    have H2 := Lib.hid hs2; clear hs2
    cases hx : Lib.hasSuffix (47 :: s.data.toList) (47 :: idx)
    · have hx1 : Lib.hasSuffix ((⟨#[47]⟩ : ByteArray) ++ s).data.toList (⟨#[47, 105, 110, 100, 101, 120, 46, 104, 116, 109, 108]⟩ : ByteArray).data.toList = false := by rw [H1.out]; exact hx
      have HX := Lib.hid hx; clear hx
      have HX1 := Lib.hid hx1; clear hx1
      go_enter Tryz.func114, Tryz.ntmps114
      go_wp2_with (first
        | (go_at_call 53; go_must (refine (shipPath_any s true m _ HM.out HP.out).mono ?_); rintro e w1 ⟨rfl, hb⟩; have HB := Lib.hid hb; clear hb)
        | (go_at_call 57; go_must (refine (hasSuffix_v _ _ false _ H2.out HX1.out).mono ?_); rintro e w2 ⟨rfl, rfl⟩))
      go_ret2
      exact ⟨ret_sp (by rw [H1.out, addrS_yes HP.out]; simp [addrL, HX.out]) rfl, HB.out⟩
    · have hx1 : Lib.hasSuffix ((⟨#[47]⟩ : ByteArray) ++ s).data.toList (⟨#[47, 105, 110, 100, 101, 120, 46, 104, 116, 109, 108]⟩ : ByteArray).data.toList = true := by rw [H1.out]; exact hx
      have hx2 : Lib.hasSuffix ((⟨#[47]⟩ : ByteArray) ++ s).data.toList (⟨#[105, 110, 100, 101, 120, 46, 104, 116, 109, 108]⟩ : ByteArray).data.toList = true := by
        rw [H1.out]
        simp only [Lib.hasSuffix, List.isSuffixOf_iff_suffix] at hx ⊢
        exact (List.suffix_cons 47 idx).trans hx
      have HX := Lib.hid hx; clear hx
      have HX1 := Lib.hid hx1; clear hx1
      have HX2 := Lib.hid hx2; clear hx2
      go_enter Tryz.func114, Tryz.ntmps114
      go_wp2_with (first
        | (go_at_call 53; go_must (refine (shipPath_any s true m _ HM.out HP.out).mono ?_); rintro e w1 ⟨rfl, hb⟩; have HB := Lib.hid hb; clear hb)
        | (go_at_call 57; go_must (refine (hasSuffix_v _ _ true _ H2.out HX1.out).mono ?_); rintro e w2 ⟨rfl, rfl⟩)
        | (go_at_call 152; go_must (refine (trimSuffix_v _ _ _ H2.out HX2.out).mono ?_); rintro e w3 ⟨rfl, rfl⟩))
      go_ret2
      exact ⟨ret_sp (by rw [addrS_yes HP.out]; simp only [addrL, HX.out, if_true, size_toList]) rfl, HB.out⟩

/-- the path of an address: does it have one, and which -/
def pathV (s : ByteArray) : Bool := Lib.hasPrefix s.data.toList [47] && pathB (pathS s)
def pathR (s : ByteArray) : ByteArray := if pathV s then pathS s else ⟨#[]⟩
end Go.Proofs.YtbhildmalcfhiaaGreatDoor
