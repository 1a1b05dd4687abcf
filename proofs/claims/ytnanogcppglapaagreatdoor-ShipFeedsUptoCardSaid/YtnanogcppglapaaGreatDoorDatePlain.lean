/-
  Days as dates, in plain numbers: the formula of tmpl.date and the loops of mastref1.DateOf give one date.
-/
import Derived.Test.YtnanogcppglapaaGreatDoorBase
namespace Go.Proofs.YtnanogcppglapaaGreatDoor

/-- days of a year, of a month -/
def yDays (y : Nat) : Nat := if y % 4 = 0 ∧ (y % 100 ≠ 0 ∨ y % 400 = 0) then 366 else 365
def mDays (y m : Nat) : Nat := if m = 2 then yDays y - 337 else if m = 4 ∨ m = 6 ∨ m = 9 ∨ m = 11 then 30 else 31
/-- days before a year (from 1970 on), before a month -/
def yStart (y : Nat) : Nat := 365 * (y - 1970) + ((y - 1) / 4 - 492) + ((y - 1) / 400 - 4) - ((y - 1) / 100 - 19)
def mStart (y m : Nat) : Nat := if m ≤ 1 then 0 else if m = 2 then 31 else if m = 3 then 31 + (yDays y - 337) else (yDays y - 337) + (if m = 4 then 62 else if m = 5 then 92 else if m = 6 then 123 else if m = 7 then 153 else if m = 8 then 184 else if m = 9 then 215 else if m = 10 then 245 else if m = 11 then 276 else 306)

theorem yStart_1970 : yStart 1970 = 0 := by decide
theorem yStart_succ (y : Nat) (h : 1970 ≤ y) : yStart (y + 1) = yStart y + yDays y := by
  obtain ⟨k, rfl⟩ : ∃ k, y = 1970 + k := ⟨y - 1970, by omega⟩
  obtain ⟨x, hx⟩ : ∃ x, 1969 + k = x := ⟨_, rfl⟩
  have e1 : 1970 + k + 1 - 1 = x + 1 := by rw [Nat.add_sub_cancel, ← hx]; omega
  have e2 : 1970 + k - 1 = x := by omega
  have e3 : 1970 + k = x + 1 := by omega
  have e4 : 1970 + k + 1 - 1970 = k + 1 := by rw [Nat.add_assoc, Nat.add_sub_cancel_left]
  have e5 : 1970 + k - 1970 = k := by rw [Nat.add_sub_cancel_left]
  unfold yStart yDays
  rw [e1, e2, e4, e5, e3]
  have d4 : (x + 1) / 4 = x / 4 + (if (x + 1) % 4 = 0 then 1 else 0) := by split <;> omega
  have d100 : (x + 1) / 100 = x / 100 + (if (x + 1) % 100 = 0 then 1 else 0) := by split <;> omega
  have d400 : (x + 1) / 400 = x / 400 + (if (x + 1) % 400 = 0 then 1 else 0) := by split <;> omega
  have b4 : 492 ≤ x / 4 := by omega
  have b100 : 19 ≤ x / 100 := by omega
  have b400 : 4 ≤ x / 400 := by omega
  have bk : x / 100 - 19 ≤ k := by omega
  have i1 : (x + 1) % 400 = 0 → (x + 1) % 100 = 0 := by omega
  have i2 : (x + 1) % 100 = 0 → (x + 1) % 4 = 0 := by omega
  rw [d4, d100, d400]
  generalize x / 4 = p at *
  generalize x / 100 = q at *
  generalize x / 400 = r at *
  by_cases a : (x + 1) % 4 = 0
  · by_cases b : (x + 1) % 100 = 0
    · by_cases c : (x + 1) % 400 = 0
      · rw [if_pos a, if_pos b, if_pos c, if_pos ⟨a, Or.inr c⟩]; omega
      · rw [if_pos a, if_pos b, if_neg c, if_neg (fun h => h.2.elim (fun h => h b) c)]; omega
    · rw [if_pos a, if_neg b, if_neg (fun h => b (i1 h)), if_pos ⟨a, Or.inl b⟩]; omega
  · rw [if_neg a, if_neg (fun h => a (i2 h)), if_neg (fun h => a (i2 (i1 h))), if_neg (fun h => a h.1)]; omega
theorem yDays_le (y : Nat) : 365 ≤ yDays y ∧ yDays y ≤ 366 := by unfold yDays; split <;> omega
theorem mStart_succ (y m : Nat) (h1 : 1 ≤ m) (h2 : m ≤ 11) : mStart y (m + 1) = mStart y m + mDays y m := by
  have h := yDays_le y
  have hm : m = 1 ∨ m = 2 ∨ m = 3 ∨ m = 4 ∨ m = 5 ∨ m = 6 ∨ m = 7 ∨ m = 8 ∨ m = 9 ∨ m = 10 ∨ m = 11 := by omega
  rcases hm with rfl | rfl | rfl | rfl | rfl | rfl | rfl | rfl | rfl | rfl | rfl <;> simp [mStart, mDays] <;> omega
theorem mStart_end (y : Nat) : mStart y 12 + mDays y 12 = yDays y := by
  have h := yDays_le y
  simp [mStart, mDays]
  omega

/-- the formula -/
def dateZ (n : Nat) : Nat × Nat × Nat :=
  let z := n + 719468
  let era := z / 146097
  let doe := z - era * 146097
  let yoe := (doe - doe / 1460 + doe / 36524 - doe / 146096) / 365
  let doy := doe - (365 * yoe + yoe / 4 - yoe / 100)
  let mp := (5 * doy + 2) / 153
  let d := doy - (153 * mp + 2) / 5 + 1
  let m0 := mp + 3
  let m := if 12 < m0 then m0 - 12 else m0
  let y0 := yoe + era * 400
  (if m ≤ 2 then y0 + 1 else y0, m, d)

def checkMonth (y m : Nat) : Bool := (List.range (mDays y m)).all fun d => dateZ (yStart y + mStart y m + d) == (y, m, d + 1)
def checkYear (y : Nat) : Bool := (List.range 12).all fun m => checkMonth y (m + 1)
def checkYears (a n : Nat) : Bool := (List.range n).all fun k => checkYear (a + k)

end Go.Proofs.YtnanogcppglapaaGreatDoor
