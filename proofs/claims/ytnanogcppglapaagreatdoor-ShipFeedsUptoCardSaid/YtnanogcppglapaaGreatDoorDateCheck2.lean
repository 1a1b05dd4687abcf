/-
  The day of the year in the formula is never below 0: at every day of an era, by the kernel.
-/
import Derived.Test.YtnanogcppglapaaGreatDoorDatePlain
namespace Go.Proofs.YtnanogcppglapaaGreatDoor

def yoeOf (doe : Nat) : Nat := (doe - doe / 1460 + doe / 36524 - doe / 146096) / 365
def doyOk (doe : Nat) : Bool := Nat.ble (365 * yoeOf doe + yoeOf doe / 4 - yoeOf doe / 100) doe
def doyRow (i : Nat) : Bool := (List.range 400).all fun j => doyOk (400 * i + j)
theorem doy_check : ((List.range 366).all doyRow) = true := by decide +kernel

theorem doy_ok {doe : Nat} (h : doe ≤ 146096) : 365 * yoeOf doe + yoeOf doe / 4 - yoeOf doe / 100 ≤ doe := by
  have h1 := doy_check
  rw [List.all_eq_true] at h1
  have h2 := h1 (doe / 400) (List.mem_range.2 (by omega))
  rw [doyRow, List.all_eq_true] at h2
  have h3 := h2 (doe % 400) (List.mem_range.2 (by omega))
  rw [show 400 * (doe / 400) + doe % 400 = doe by omega] at h3
  exact Nat.le_of_ble_eq_true h3

end Go.Proofs.YtnanogcppglapaaGreatDoor
