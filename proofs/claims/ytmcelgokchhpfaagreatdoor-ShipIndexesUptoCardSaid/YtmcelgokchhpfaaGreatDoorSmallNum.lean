/-
  Numbers of at most nine digits: ship.small, mastref1.natural.
-/
import Derived.Test.YtmcelgokchhpfaaGreatDoorIdxPlain
import Derived.Test.YtmcelgokchhpfaaGreatDoorLetters
import Derived.BigQuiet
namespace Go.Proofs.YtmcelgokchhpfaaGreatDoor
open Go.RowKit Go.Deep

def decV (l : List UInt8) : Nat := l.foldl (fun n c => 10 * n + (c.toNat - 48)) 0
def digitsB (l : List UInt8) : Bool := l.all fun c => isDigitP (c.toNat : Int)
/-- is it a number's form, but for its digits -/
def numForm (l : List UInt8) : Bool := decide (1 ≤ l.length) && decide (l.length ≤ 9) && !(l.head? == some 48 && decide (1 < l.length))
def numB (l : List UInt8) : Bool := numForm l && digitsB l
def numV (l : List UInt8) : Nat := if numB l = true then decV l else 0
theorem decV_succ {l : List UInt8} {k : Nat} {c : UInt8} (h : l[k]? = some c) : decV (l.take (k + 1)) = 10 * decV (l.take k) + (c.toNat - 48) := by
  obtain ⟨hk, rfl⟩ := List.getElem?_eq_some_iff.1 h
  rw [List.take_succ_eq_append_getElem hk, decV, List.foldl_append]
  rfl
theorem decV_lt {l : List UInt8} : ∀ (k : Nat), k ≤ l.length → digitsB (l.take k) = true → decV (l.take k) < 10 ^ k
  | 0, _, _ => by simp [decV]
  | k + 1, hk, hd => by
    have hlt : k < l.length := hk
    have h : l[k]? = some l[k] := List.getElem?_eq_getElem hlt
    have e : l.take (k + 1) = l.take k ++ [l[k]] := List.take_succ_eq_append_getElem hlt
    rw [e, digitsB, List.all_append, Bool.and_eq_true] at hd
    have ih := decV_lt k (by omega) hd.1
    have hd2 : isDigitP (l[k].toNat : Int) = true := by simpa using hd.2
    simp only [isDigitP, decide_eq_true_eq] at hd2
    rw [decV_succ h, Nat.pow_succ]
    omega
theorem digits_succ {l : List UInt8} {k : Nat} {c : UInt8} (h : l[k]? = some c) (hd : digitsB (l.take k) = true) (hc : isDigitP (c.toNat : Int) = true) : digitsB (l.take (k + 1)) = true := by
  obtain ⟨hk, rfl⟩ := List.getElem?_eq_some_iff.1 h
  rw [List.take_succ_eq_append_getElem hk, digitsB, List.all_append, Bool.and_eq_true]
  exact ⟨hd, by simpa using hc⟩
theorem num_bad {l : List UInt8} {k : Nat} {c : UInt8} (h : l[k]? = some c) (hc : isDigitP (c.toNat : Int) = false) : numB l = false := by
  have : digitsB l = false := by
    rw [digitsB, List.all_eq_false]
    exact ⟨c, List.mem_of_getElem? h, by simp [hc]⟩
  rw [numB, this, Bool.and_false]
theorem num_form {l : List UInt8} (h : numForm l = false) : numB l = false := by rw [numB, h]; rfl
theorem ret_num {l : List UInt8} {n : Int} {b : Bool} (hn : ((numV l : Nat) : Int) = n) (hb : numB l = b) : Ending.returned (.tuple #[.int .i64 n, .bool b]) = .returned (.tuple #[.int .i64 (numV l : Nat), .bool (numB l)]) := by rw [hn, hb]
theorem numV_no {l : List UInt8} (h : numB l = false) : ((numV l : Nat) : Int) = 0 := by rw [numV, h]; rfl
theorem numV_yes {l : List UInt8} (h : numB l = true) : numV l = decV l := by rw [numV, h]; rfl
theorem form_empty {s : ByteArray} (h : s.size = 0) : numForm s.data.toList = false := by
  have : s.data.toList = [] := List.eq_nil_of_length_eq_zero (by rw [size_toList]; exact h)
  rw [this]; rfl
theorem form_long {s : ByteArray} (h : 9 < s.size) : numForm s.data.toList = false := by
  rw [numForm, show decide (s.data.toList.length ≤ 9) = false by rw [size_toList]; simpa using h]; simp
theorem form_zero {s : ByteArray} (h : 1 < s.size) (h0 : s.data.toList[0]? = some 48) : numForm s.data.toList = false := by
  have e : s.data.toList.head? = some 48 := by rw [List.head?_eq_getElem?]; exact h0
  rw [numForm, e, show decide (1 < s.data.toList.length) = true by rw [size_toList]; simpa using h]; simp
theorem form_ok {s : ByteArray} (h1 : 1 ≤ s.size) (h9 : s.size ≤ 9) (h : s.data.toList[0]? ≠ some 48 ∨ s.size = 1) : numForm s.data.toList = true := by
  simp only [numForm, size_toList, h1, h9, decide_true, Bool.true_and, Bool.not_eq_true', Bool.and_eq_false_iff, decide_eq_false_iff_not, beq_eq_false_iff_ne]
  rcases h with h | h
  · exact Or.inl (by rw [List.head?_eq_getElem?]; exact h)
  · exact Or.inr (by omega)
theorem one_zero {s : ByteArray} (h1 : s.size = 1) (h0 : s.data.toList[0]? = some 48) : (s.toList == (⟨#[48]⟩ : ByteArray).toList) = true := by
  rw [Go.ByteArray.toList_eq, Go.ByteArray.toList_eq]
  match hl : s.data.toList with
  | [] => rw [hl] at h0; cases h0
  | [a] => rw [hl] at h0; cases h0; rfl
  | a :: b :: r => have := size_toList s; rw [hl] at this; simp at this; omega
theorem byte48 {c : UInt8} (h : ((c.toNat : Int) == 48) = true) : some c = some (48 : UInt8) := by
  have h2 : (c.toNat : Int) = 48 := by simpa using h
  congr 1
  apply UInt8.toNat_inj.1
  show c.toNat = 48
  omega
theorem not48 {c : UInt8} (h : ((c.toNat : Int) == 48) = false) : some c ≠ some (48 : UInt8) := by
  rintro ⟨rfl⟩
  exact absurd h (by decide)
theorem not_one_zero {s : ByteArray} (h1 : ¬ s.size = 1) : (s.toList == (⟨#[48]⟩ : ByteArray).toList) = false := by
  rw [beq_eq_false_iff_ne]
  intro e
  rw [Go.ByteArray.toList_eq, Go.ByteArray.toList_eq] at e
  have := congrArg List.length e
  rw [size_toList] at this
  exact h1 this
theorem z48 : (⟨#[48]⟩ : ByteArray).toList = [48] := by rw [Go.ByteArray.toList_eq]
theorem wrapU8 (n : Int) : IntKind.u8.wrap n = n % 256 := by simp [IntKind.wrap, IntKind.bits, IntKind.signed]
theorem isEmptyN {u : ByteArray} (h : u.size = 0) : u.toList.isEmpty = true := by
  rw [Lib.toList_data, List.isEmpty_iff]
  exact List.eq_nil_of_length_eq_zero (by rw [size_toList]; exact h)
theorem notEmptyN {u : ByteArray} (h : ¬ u.size = 0) : u.toList.isEmpty = false := by
  rw [Lib.toList_data]
  cases hl : u.data.toList with
  | nil => exact absurd (by rw [← size_toList, hl]; rfl) h
  | cons a r => rfl

end Go.Proofs.YtmcelgokchhpfaaGreatDoor
