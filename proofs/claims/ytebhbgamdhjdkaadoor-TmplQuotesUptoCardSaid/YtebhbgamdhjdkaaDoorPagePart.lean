/-
  A part of an address: page.isPart and mastref1.pathPart.
-/
import Derived.Test.YtebhbgamdhjdkaaDoorBytes
import Derived.Test.YtebhbgamdhjdkaaDoorShelf
import Derived.Deep.DeepMust
import Derived.Outline
import Derived.BigGuardPart
import Derived.Laws.Strings2
namespace Go.Proofs.YtebhbgamdhjdkaaDoor
open Go.RowKit Go.Deep

def smallQ (c : UInt8) : Bool := decide (97 ≤ c.toNat) && decide (c.toNat ≤ 122)
def digitQ (c : UInt8) : Bool := decide (48 ≤ c.toNat) && decide (c.toNat ≤ 57)
def wordQ (c : UInt8) : Bool := smallQ c || digitQ c || decide (c.toNat = 95)
/-- a byte of a part -/
def partQ (c : UInt8) : Bool := wordQ c || decide (c.toNat = 45) || decide (c.toNat = 46)
/-- a part of an address -/
def partS (l : List UInt8) : Bool := decide (1 ≤ l.length) && decide (l.length ≤ 40) && !(l == [46]) && !(l == [46, 46]) && l.all partQ

theorem byte_every {p : UInt8 → Bool} (h : ∀ n : Fin 256, p (UInt8.ofNat n.1) = true) (c : UInt8) : p c = true := by
  have := h ⟨c.toNat, c.toNat_lt⟩
  simpa using this
theorem wordQ_int (c : UInt8) : wordQ c = (decide (97 ≤ (c.toNat : Int)) && decide ((c.toNat : Int) ≤ 122) || digitQ c || ((c.toNat : Int) == 95)) :=
  eq_of_beq (byte_every (p := fun c => wordQ c == (decide (97 ≤ (c.toNat : Int)) && decide ((c.toNat : Int) ≤ 122) || digitQ c || ((c.toNat : Int) == 95))) (by decide +kernel) c)
theorem partQ_int (c : UInt8) : partQ c = (wordQ c || ((c.toNat : Int) == 45) || ((c.toNat : Int) == 46)) :=
  eq_of_beq (byte_every (p := fun c => partQ c == (wordQ c || ((c.toNat : Int) == 45) || ((c.toNat : Int) == 46))) (by decide +kernel) c)
theorem partQ_int2 (c : UInt8) : partQ c = (smallQ c || digitQ c || ((c.toNat : Int) == 45) || ((c.toNat : Int) == 95) || ((c.toNat : Int) == 46)) :=
  eq_of_beq (byte_every (p := fun c => partQ c == (smallQ c || digitQ c || ((c.toNat : Int) == 45) || ((c.toNat : Int) == 95) || ((c.toNat : Int) == 46))) (by decide +kernel) c)

theorem byteQ {s : ByteArray} {k : Nat} (hlt : k < s.size) : s.data.toList[k]? = some s[k] := by
  rw [List.getElem?_eq_getElem (by rw [size_toList]; exact hlt)]
  rfl
theorem emptyQ_false {s : ByteArray} (h : ¬ s.size = 0) : s.toList.isEmpty = false := by
  have hne : ¬ s.data.toList = [] := by intro hs; exact absurd (by rw [← size_toList, hs]; rfl) h
  have h2 : ¬ s.toList = [] := by rw [Go.ByteArray.toList_eq]; exact hne
  cases hs : s.toList with | nil => exact absurd hs h2 | cons a r => rfl
theorem emptyQ_true {s : ByteArray} (h : s.size = 0) : s.toList = [] := by rw [Go.ByteArray.toList_eq]; exact List.eq_nil_of_length_eq_zero (by rw [size_toList]; exact h)

theorem isSmall_q (c : UInt8) (w : World) : Calls Tryd.prog 97 #[.int .u8 (c.toNat : Int)] w fun e w' => e = .returned (.bool (smallQ c)) ∧ w = w' := by
  go_enter Tryd.func97, Tryd.ntmps97
  go_wp2_with fail
  all_goals
    go_ret
    refine ⟨ret_bool ?_, rfl⟩
    rw [Bool.eq_iff_iff]
    simp [smallQ]
    try omega
theorem isDigit_q (c : UInt8) (w : World) : Calls Tryd.prog 98 #[.int .u8 (c.toNat : Int)] w fun e w' => e = .returned (.bool (digitQ c)) ∧ w = w' := by
  go_enter Tryd.func98, Tryd.ntmps98
  go_wp2_with fail
  all_goals
    go_ret
    refine ⟨ret_bool ?_, rfl⟩
    rw [Bool.eq_iff_iff]
    simp [digitQ]
    try omega
theorem refDigit_q (c : UInt8) (w : World) : Calls Tryd.prog 90 #[.int .u8 (c.toNat : Int)] w fun e w' => e = .returned (.bool (digitQ c)) ∧ w = w' := by
  go_enter Tryd.func90, Tryd.ntmps90
  go_wp2_with fail
  all_goals
    go_ret
    refine ⟨ret_bool ?_, rfl⟩
    rw [Bool.eq_iff_iff]
    simp [digitQ]
    try omega
theorem wordByte_q (c : UInt8) (w : World) : Calls Tryd.prog 101 #[.int .u8 (c.toNat : Int)] w fun e w' => e = .returned (.bool (wordQ c)) ∧ w = w' := by
  have HE := Lib.hid (wordQ_int c)
  go_enter Tryd.func101, Tryd.ntmps101
  go_wp2_with (go_at_call 90; go_must (refine (refDigit_q _ _).mono ?_); rintro e w1 ⟨rfl, rfl⟩)
  all_goals
    go_ret
    refine ⟨ret_bool ?_, rfl⟩
    rw [HE.out]
    first
    | (simp_all; done)
    | (simp_all; omega)

theorem partS_all {l : List UInt8} (h1 : 1 ≤ l.length) (h2 : l.length ≤ 40) (h3 : (l == [46]) = false) (h4 : (l == [46, 46]) = false) (h5 : ∀ (j : Nat) (c : UInt8), l[j]? = some c → partQ c = true) : partS l = true := by
  simp only [partS, h1, h2, h3, h4, decide_true, Bool.not_false, Bool.true_and, Bool.and_true, List.all_eq_true]
  intro c hc
  obtain ⟨j, hj⟩ := List.mem_iff_getElem?.1 hc
  exact h5 j c hj
theorem partS_bad {l : List UInt8} {j : Nat} {c : UInt8} (h : l[j]? = some c) (hc : partQ c = false) : partS l = false := by
  have : l.all partQ = false := by
    rw [List.all_eq_false]
    exact ⟨c, List.mem_of_getElem? h, by simp [hc]⟩
  rw [partS, this, Bool.and_false]
theorem partS_size {l : List UInt8} (h : l.length < 1 ∨ 40 < l.length) : partS l = false := by
  simp only [partS]
  rcases h with h | h
  · rw [show decide (1 ≤ l.length) = false by rw [decide_eq_false_iff_not]; omega]; simp
  · rw [show decide (l.length ≤ 40) = false by rw [decide_eq_false_iff_not]; omega]; simp
theorem partS_dot {l : List UInt8} (h : (l == [46]) = true ∨ (l == [46, 46]) = true) : partS l = false := by
  simp only [partS]
  rcases h with h | h <;> rw [h] <;> simp

set_option maxHeartbeats 2000000 in
theorem isPart_q (s : ByteArray) (w : World) : Calls Tryd.prog 62 #[.string s] w fun e w' => e = .returned (.bool (partS s.data.toList)) ∧ w = w' := by
  by_cases hz : s.size < 1 ∨ 40 < s.size
  · have HX := Lib.hid (partS_size (l := s.data.toList) (by rw [size_toList]; exact hz))
    rcases hz with hz | hz
    · have h0 : s.size = 0 := by omega
      have e0 := emptyQ_true h0
      go_enter Tryd.func62, Tryd.ntmps62
      go_wp2_with fail
      all_goals first
        | (exfalso; omega)
        | (go_ret
           exact ⟨ret_bool HX.out.symm, rfl⟩)
    · have e0 := emptyQ_false (s := s) (by omega)
      go_enter Tryd.func62, Tryd.ntmps62
      go_wp2_with fail
      all_goals first
        | (exfalso; omega)
        | (go_ret
           exact ⟨ret_bool HX.out.symm, rfl⟩)
  have hz1 : 1 ≤ s.size := by omega
  have hz2 : s.size ≤ 40 := by omega
  have e0 := emptyQ_false (s := s) (by omega)
  clear hz
  cases hd1 : s.toList == [46]
  case true =>
    have HX := Lib.hid (partS_dot (l := s.data.toList) (Or.inl (by rw [← Go.ByteArray.toList_eq]; exact hd1)))
    have f1 : s.toList = [46] := eq_of_beq hd1
    have f2 : s.size = 1 := by rw [← size_toList, ← Go.ByteArray.toList_eq, f1]; rfl
    clear hd1
    go_enter Tryd.func62, Tryd.ntmps62
    go_wp2_with fail
    all_goals first
      | (exfalso; omega)
      | (go_ret
         exact ⟨ret_bool HX.out.symm, rfl⟩)
  cases hd2 : s.toList == [46, 46]
  case true =>
    have HX := Lib.hid (partS_dot (l := s.data.toList) (Or.inr (by rw [← Go.ByteArray.toList_eq]; exact hd2)))
    have f1 : s.toList = [46, 46] := eq_of_beq hd2
    have f2 : s.size = 2 := by rw [← size_toList, ← Go.ByteArray.toList_eq, f1]; rfl
    clear hd1 hd2
    go_enter Tryd.func62, Tryd.ntmps62
    go_wp2_with fail
    all_goals first
      | (exfalso; omega)
      | (go_ret
         exact ⟨ret_bool HX.out.symm, rfl⟩)
  have HD1 := Lib.hid (show (s.data.toList == [46]) = false by rw [← Go.ByteArray.toList_eq]; exact hd1)
  have HD2 := Lib.hid (show (s.data.toList == [46, 46]) = false by rw [← Go.ByteArray.toList_eq]; exact hd2)
  go_enter Tryd.func62, Tryd.ntmps62
  go_wp2_with fail
  all_goals first
    | (exfalso; omega)
    | skip
  clear e0 hd1 hd2
  go_loopw [3] (fun t wr => ∃ k : Nat, k ≤ s.size ∧ t = .int .i64 k ∧ EqW wr w ∧ Hid (∀ (j : Nat) (c : UInt8), s.data.toList[j]? = some c → j < k → partQ c = true)) (fun t _ => s.size - (intOf t).toNat)
  case atStart => exact ⟨0, Nat.zero_le _, rfl, EqW.refl _, fun j c _ h => absurd h (by omega)⟩
  case round =>
    obtain ⟨k, hk, rfl, hww, hall⟩ := hrel
    unfold EqW at hww
    subst hww
    by_cases hlt : k < s.size
    · have HB := Lib.hid (byteQ hlt)
      have HN := Lib.hid (partQ_int2 s[k])
      go_wp2_with (first
        | (go_at_call 97; go_must (refine (isSmall_q _ _).mono ?_); rintro e w1 ⟨rfl, rfl⟩)
        | (go_at_call 98; go_must (refine (isDigit_q _ _).mono ?_); rintro e w1 ⟨rfl, rfl⟩))
      all_goals first
        | (go_roundw
           case rel =>
             have hn : partQ s[k] = true := by rw [HN.out]; first | (simp_all; done) | (simp_all; omega)
             refine ⟨k + 1, by omega, by go_num, EqW.refl _, fun j c h3 h4 => ?_⟩
             rcases Nat.lt_succ_iff_lt_or_eq.1 h4 with h5 | rfl
             · exact hall.out j c h3 h5
             · rw [HB.out] at h3
               cases h3
               exact hn
           case measure => simp [intOf]; omega)
        | (go_ret
           have hn : partQ s[k] = false := by rw [HN.out]; first | (simp_all; done) | (simp_all; omega)
           exact ⟨ret_bool (partS_bad HB.out hn).symm, rfl⟩)
    · have HR := Lib.hid (partS_all (l := s.data.toList) (by rw [size_toList]; omega) (by rw [size_toList]; omega) HD1.out HD2.out (fun j c h3 => hall.out j c h3 (by have := (List.getElem?_eq_some_iff.1 h3).1; rw [size_toList] at this; omega)))
      go_wp2_with fail
      go_ret
      exact ⟨ret_bool HR.out.symm, rfl⟩

set_option maxHeartbeats 2000000 in
theorem pathPart_q (s : ByteArray) (w : World) : Calls Tryd.prog 66 #[.string s] w fun e w' => e = .returned (.bool (partS s.data.toList)) ∧ w = w' := by
  by_cases hz : s.size < 1 ∨ 40 < s.size
  · have HX := Lib.hid (partS_size (l := s.data.toList) (by rw [size_toList]; exact hz))
    rcases hz with hz | hz
    · have h0 : s.size = 0 := by omega
      have e0 := emptyQ_true h0
      go_enter Tryd.func66, Tryd.ntmps66
      go_wp2_with fail
      all_goals first
        | (exfalso; omega)
        | (go_ret
           exact ⟨ret_bool HX.out.symm, rfl⟩)
    · have e0 := emptyQ_false (s := s) (by omega)
      go_enter Tryd.func66, Tryd.ntmps66
      go_wp2_with fail
      all_goals first
        | (exfalso; omega)
        | (go_ret
           exact ⟨ret_bool HX.out.symm, rfl⟩)
  have hz1 : 1 ≤ s.size := by omega
  have hz2 : s.size ≤ 40 := by omega
  have e0 := emptyQ_false (s := s) (by omega)
  clear hz
  cases hd1 : s.toList == [46]
  case true =>
    have HX := Lib.hid (partS_dot (l := s.data.toList) (Or.inl (by rw [← Go.ByteArray.toList_eq]; exact hd1)))
    have f1 : s.toList = [46] := eq_of_beq hd1
    have f2 : s.size = 1 := by rw [← size_toList, ← Go.ByteArray.toList_eq, f1]; rfl
    clear hd1
    go_enter Tryd.func66, Tryd.ntmps66
    go_wp2_with fail
    all_goals first
      | (exfalso; omega)
      | (go_ret
         exact ⟨ret_bool HX.out.symm, rfl⟩)
  cases hd2 : s.toList == [46, 46]
  case true =>
    have HX := Lib.hid (partS_dot (l := s.data.toList) (Or.inr (by rw [← Go.ByteArray.toList_eq]; exact hd2)))
    have f1 : s.toList = [46, 46] := eq_of_beq hd2
    have f2 : s.size = 2 := by rw [← size_toList, ← Go.ByteArray.toList_eq, f1]; rfl
    clear hd1 hd2
    go_enter Tryd.func66, Tryd.ntmps66
    go_wp2_with fail
    all_goals first
      | (exfalso; omega)
      | (go_ret
         exact ⟨ret_bool HX.out.symm, rfl⟩)
  have HD1 := Lib.hid (show (s.data.toList == [46]) = false by rw [← Go.ByteArray.toList_eq]; exact hd1)
  have HD2 := Lib.hid (show (s.data.toList == [46, 46]) = false by rw [← Go.ByteArray.toList_eq]; exact hd2)
  go_enter Tryd.func66, Tryd.ntmps66
  go_wp2_with fail
  all_goals first
    | (exfalso; omega)
    | skip
  clear e0 hd1 hd2
  go_loopw [3] (fun t wr => ∃ k : Nat, k ≤ s.size ∧ t = .int .i64 k ∧ EqW wr w ∧ Hid (∀ (j : Nat) (c : UInt8), s.data.toList[j]? = some c → j < k → partQ c = true)) (fun t _ => s.size - (intOf t).toNat)
  case atStart => exact ⟨0, Nat.zero_le _, rfl, EqW.refl _, fun j c _ h => absurd h (by omega)⟩
  case round =>
    obtain ⟨k, hk, rfl, hww, hall⟩ := hrel
    unfold EqW at hww
    subst hww
    by_cases hlt : k < s.size
    · have HB := Lib.hid (byteQ hlt)
      have HN := Lib.hid (partQ_int s[k])
      go_wp2_with (first
        | (go_at_call 101; go_must (refine (wordByte_q _ _).mono ?_); rintro e w1 ⟨rfl, rfl⟩)
        | fail)
      all_goals first
        | (go_roundw
           case rel =>
             have hn : partQ s[k] = true := by rw [HN.out]; first | (simp_all; done) | (simp_all; omega)
             refine ⟨k + 1, by omega, by go_num, EqW.refl _, fun j c h3 h4 => ?_⟩
             rcases Nat.lt_succ_iff_lt_or_eq.1 h4 with h5 | rfl
             · exact hall.out j c h3 h5
             · rw [HB.out] at h3
               cases h3
               exact hn
           case measure => simp [intOf]; omega)
        | (go_ret
           have hn : partQ s[k] = false := by rw [HN.out]; first | (simp_all; done) | (simp_all; omega)
           exact ⟨ret_bool (partS_bad HB.out hn).symm, rfl⟩)
    · have HR := Lib.hid (partS_all (l := s.data.toList) (by rw [size_toList]; omega) (by rw [size_toList]; omega) HD1.out HD2.out (fun j c h3 => hall.out j c h3 (by have := (List.getElem?_eq_some_iff.1 h3).1; rw [size_toList] at this; omega)))
      go_wp2_with fail
      go_ret
      exact ⟨ret_bool HR.out.symm, rfl⟩

end Go.Proofs.YtebhbgamdhjdkaaDoor
