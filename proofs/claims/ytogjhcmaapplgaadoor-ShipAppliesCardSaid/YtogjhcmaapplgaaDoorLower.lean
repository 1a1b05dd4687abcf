/-
  lower: capital letters made small.
-/
import Derived.Test.YtogjhcmaapplgaaDoorBytes
import Derived.Outline
import Derived.BigQuiet
import Derived.Deep.QuietTactic
import Derived.RegionTactic
import Derived.Deep.DeepMust
namespace Go.Proofs.YtogjhcmaapplgaaDoor
open Go.RowKit Go.Deep

/-- a capital letter made small -/
def lowerB (c : UInt8) : UInt8 := if 65 ≤ c.toNat ∧ c.toNat ≤ 90 then c + 32 else c
def lowerL (l : List UInt8) : List UInt8 := l.map lowerB

/-- the first k bytes made small -/
def low (l : List UInt8) (k : Nat) : List UInt8 := lowerL (l.take k) ++ l.drop k

theorem low_zero (l : List UInt8) : low l 0 = l := by simp [low, lowerL]
theorem low_all (l : List UInt8) (k : Nat) (h : l.length = k) : low l k = lowerL l := by subst h; simp [low]
theorem low_len (l : List UInt8) (k : Nat) : (low l k).length = l.length := by simp [low, lowerL]; omega
theorem low_at {l : List UInt8} {k : Nat} {b : UInt8} (h : l[k]? = some b) : (low l k).getD k 0 = b := by
  have hk := (List.getElem?_eq_some_iff.1 h).1
  have hl : (lowerL (l.take k)).length = k := by simp [lowerL]; omega
  rw [low, List.getD_eq_getElem?_getD, List.getElem?_append_right (by omega), hl, List.getElem?_drop]
  simp [h]
theorem low_step {l : List UInt8} {k : Nat} {b : UInt8} (h : l[k]? = some b) : low l (k + 1) = (low l k).set k (lowerB b) := by
  have hk := (List.getElem?_eq_some_iff.1 h).1
  have hb := (List.getElem?_eq_some_iff.1 h).2
  have hl : (lowerL (l.take k)).length = k := by simp [lowerL]; omega
  rw [low, low, List.set_append, if_neg (by omega), hl, Nat.sub_self, List.drop_eq_getElem_cons hk, List.set_cons_zero, List.take_succ_eq_append_getElem hk, hb]
  simp [lowerL]
theorem lowerB_up {b : UInt8} (h : 65 ≤ (b.toNat : Int) ∧ (b.toNat : Int) ≤ 90) : ((lowerB b).toNat : Int) = (b.toNat : Int) + 32 := by
  have h' : 65 ≤ b.toNat ∧ b.toNat ≤ 90 := by omega
  unfold lowerB
  rw [if_pos h', UInt8.toNat_add]
  have : (32 : UInt8).toNat = 32 := rfl
  rw [this, Nat.mod_eq_of_lt (by omega)]
  omega
theorem lowerB_id {b : UInt8} (h : ¬ (65 ≤ (b.toNat : Int) ∧ (b.toNat : Int) ≤ 90)) : lowerB b = b := by
  unfold lowerB
  rw [if_neg (by omega)]

end Go.Proofs.YtogjhcmaapplgaaDoor
