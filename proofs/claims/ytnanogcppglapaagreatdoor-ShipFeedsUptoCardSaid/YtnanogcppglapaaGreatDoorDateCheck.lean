/-
  The formula at every day from 1970 to 2199, by the kernel (some 100 seconds).
-/
import Derived.Test.YtnanogcppglapaaGreatDoorDatePlain
namespace Go.Proofs.YtnanogcppglapaaGreatDoor

theorem check_all : checkYears 1970 230 = true := by decide +kernel

/-- what the formula gives at a day of a month of a year -/
theorem dateZ_at {y m d : Nat} (h1 : 1970 ≤ y) (h2 : y ≤ 2199) (h3 : 1 ≤ m) (h4 : m ≤ 12) (h5 : d < mDays y m) : dateZ (yStart y + mStart y m + d) = (y, m, d + 1) := by
  have h := check_all
  unfold checkYears at h
  rw [List.all_eq_true] at h
  have hy := h (y - 1970) (List.mem_range.2 (by omega))
  rw [show 1970 + (y - 1970) = y by omega, checkYear, List.all_eq_true] at hy
  have hm := hy (m - 1) (List.mem_range.2 (by omega))
  rw [show m - 1 + 1 = m by omega, checkMonth, List.all_eq_true] at hm
  have hd := hm d (List.mem_range.2 h5)
  simpa using hd

end Go.Proofs.YtnanogcppglapaaGreatDoor
