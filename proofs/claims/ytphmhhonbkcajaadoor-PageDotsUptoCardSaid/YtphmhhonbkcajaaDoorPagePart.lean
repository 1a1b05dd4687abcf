/-
  A part of an address: page.isPart and mastref1.pathPart.
-/
import Derived.Test.YtphmhhonbkcajaaDoorBytes
import Derived.Test.YtphmhhonbkcajaaDoorShelf
import Derived.Deep.DeepMust
import Derived.Outline
import Derived.BigGuardPart
import Derived.Laws.Strings2
namespace Go.Proofs.YtphmhhonbkcajaaDoor
open Go.RowKit Go.Deep

def smallQ (c : UInt8) : Bool := decide (97 ≤ c.toNat) && decide (c.toNat ≤ 122)
def digitQ (c : UInt8) : Bool := decide (48 ≤ c.toNat) && decide (c.toNat ≤ 57)
def wordQ (c : UInt8) : Bool := smallQ c || digitQ c || decide (c.toNat = 95)
/-- a byte of a part -/
def partQ (c : UInt8) : Bool := wordQ c || decide (c.toNat = 45) || decide (c.toNat = 46)
/-- a part of an address -/
def partS (l : List UInt8) : Bool := decide (1 ≤ l.length) && decide (l.length ≤ 40) && !(l == [46]) && !(l == [46, 46]) && l.all partQ

theorem byte_every {p : UInt8 → Bool} (h : ∀ n : Fin 256, p (UInt8.ofNat n.1) = true) (c : UInt8) : p c = true := by
  have := h ⟨c.toNat, c.toNat_lt⟩
  simpa using this
theorem wordQ_int (c : UInt8) : wordQ c = (decide (97 ≤ (c.toNat : Int)) && decide ((c.toNat : Int) ≤ 122) || digitQ c || ((c.toNat : Int) == 95)) :=
  eq_of_beq (byte_every (p := fun c => wordQ c == (decide (97 ≤ (c.toNat : Int)) && decide ((c.toNat : Int) ≤ 122) || digitQ c || ((c.toNat : Int) == 95))) (by decide +kernel) c)
theorem partQ_int (c : UInt8) : partQ c = (wordQ c || ((c.toNat : Int) == 45) || ((c.toNat : Int) == 46)) :=
  eq_of_beq (byte_every (p := fun c => partQ c == (wordQ c || ((c.toNat : Int) == 45) || ((c.toNat : Int) == 46))) (by decide +kernel) c)
theorem partQ_int2 (c : UInt8) : partQ c = (smallQ c || digitQ c || ((c.toNat : Int) == 45) || ((c.toNat : Int) == 95) || ((c.toNat : Int) == 46)) :=
  eq_of_beq (byte_every (p := fun c => partQ c == (smallQ c || digitQ c || ((c.toNat : Int) == 45) || ((c.toNat : Int) == 95) || ((c.toNat : Int) == 46))) (by decide +kernel) c)

theorem byteQ {s : ByteArray} {k : Nat} (hlt : k < s.size) : s.data.toList[k]? = some s[k] := by
  rw [List.getElem?_eq_getElem (by rw [size_toList]; exact hlt)]
  rfl
theorem emptyQ_false {s : ByteArray} (h : ¬ s.size = 0) : s.toList.isEmpty = false := by
  have hne : ¬ s.data.toList = [] := by intro hs; exact absurd (by rw [← size_toList, hs]; rfl) h
  have h2 : ¬ s.toList = [] := by rw [Go.ByteArray.toList_eq]; exact hne
  cases hs : s.toList with | nil => exact absurd hs h2 | cons a r => rfl
theorem emptyQ_true {s : ByteArray} (h : s.size = 0) : s.toList = [] := by rw [Go.ByteArray.toList_eq]; exact List.eq_nil_of_length_eq_zero (by rw [size_toList]; exact h)

theorem partS_all {l : List UInt8} (h1 : 1 ≤ l.length) (h2 : l.length ≤ 40) (h3 : (l == [46]) = false) (h4 : (l == [46, 46]) = false) (h5 : ∀ (j : Nat) (c : UInt8), l[j]? = some c → partQ c = true) : partS l = true := by
  simp only [partS, h1, h2, h3, h4, decide_true, Bool.not_false, Bool.true_and, Bool.and_true, List.all_eq_true]
  intro c hc
  obtain ⟨j, hj⟩ := List.mem_iff_getElem?.1 hc
  exact h5 j c hj
theorem partS_bad {l : List UInt8} {j : Nat} {c : UInt8} (h : l[j]? = some c) (hc : partQ c = false) : partS l = false := by
  have : l.all partQ = false := by
    rw [List.all_eq_false]
    exact ⟨c, List.mem_of_getElem? h, by simp [hc]⟩
  rw [partS, this, Bool.and_false]
theorem partS_size {l : List UInt8} (h : l.length < 1 ∨ 40 < l.length) : partS l = false := by
  simp only [partS]
  rcases h with h | h
  · rw [show decide (1 ≤ l.length) = false by rw [decide_eq_false_iff_not]; omega]; simp
  · rw [show decide (l.length ≤ 40) = false by rw [decide_eq_false_iff_not]; omega]; simp
theorem partS_dot {l : List UInt8} (h : (l == [46]) = true ∨ (l == [46, 46]) = true) : partS l = false := by
  simp only [partS]
  rcases h with h | h <;> rw [h] <;> simp

end Go.Proofs.YtphmhhonbkcajaaDoor
