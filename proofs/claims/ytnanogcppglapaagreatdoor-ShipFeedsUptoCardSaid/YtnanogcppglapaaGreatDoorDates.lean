/-
  Days as dates: tmpl.date, mastref1.yearDays, mastref1.monthDays; small ones: truth, inRange.
-/
import Derived.Test.YtnanogcppglapaaGreatDoorDateCheck2
import Derived.Test.YtnanogcppglapaaGreatDoorBytes
import Derived.Test.YtnanogcppglapaaGreatDoorShelf
import Derived.BigQuiet
import Derived.Deep.DeepMust
import Derived.Outline
namespace Go.Proofs.YtnanogcppglapaaGreatDoor
open Go.RowKit Go.Deep

theorem yearDays_any (y : Nat) (w : World) (h : y ≤ 10000) : Calls Tryz.prog 50 #[.int .i64 y] w fun e w' => e = .returned (.int .i64 (yDays y : Nat)) ∧ w = w' := by
  have e4 : ((y : Int) % 4 == 0) = decide (y % 4 = 0) := by rw [Bool.eq_iff_iff, beq_iff_eq, decide_eq_true_iff]; omega
  have e100 : ((y : Int) % 100 != 0) = !decide (y % 100 = 0) := by rw [Bool.eq_iff_iff, bne_iff_ne, Bool.not_eq_true', decide_eq_false_iff_not]; omega
  have e400 : ((y : Int) % 400 == 0) = decide (y % 400 = 0) := by rw [Bool.eq_iff_iff, beq_iff_eq, decide_eq_true_iff]; omega
  by_cases a : y % 4 = 0
  · have a1 : ((y : Int) % 4 == 0) = true := by rw [e4]; simp [a]
    by_cases b : y % 100 = 0
    · have b1 : ((y : Int) % 100 != 0) = false := by rw [e100]; simp [b]
      by_cases c : y % 400 = 0
      · have c1 : ((y : Int) % 400 == 0) = true := by rw [e400]; simp [c]
        have HR := Lib.hid (show yDays y = 366 by unfold yDays; rw [if_pos ⟨a, Or.inr c⟩])
        clear e4 e100 e400 a b c
        go_enter Tryz.func50, Tryz.ntmps50
        go_wp2_with fail
        go_ret
        exact ⟨by rw [HR.out]; rfl, rfl⟩
      · have c1 : ((y : Int) % 400 == 0) = false := by rw [e400]; simp [c]
        have HR := Lib.hid (show yDays y = 365 by unfold yDays; rw [if_neg (fun h => h.2.elim (fun h => h b) c)])
        clear e4 e100 e400 a b c
        go_enter Tryz.func50, Tryz.ntmps50
        go_wp2_with fail
        go_ret
        exact ⟨by rw [HR.out]; rfl, rfl⟩
    · have b1 : ((y : Int) % 100 != 0) = true := by rw [e100]; simp [b]
      have HR := Lib.hid (show yDays y = 366 by unfold yDays; rw [if_pos ⟨a, Or.inl b⟩])
      clear e4 e100 e400 a b
      go_enter Tryz.func50, Tryz.ntmps50
      go_wp2_with fail
      go_ret
      exact ⟨by rw [HR.out]; rfl, rfl⟩
  · have a1 : ((y : Int) % 4 == 0) = false := by rw [e4]; simp [a]
    have HR := Lib.hid (show yDays y = 365 by unfold yDays; rw [if_neg (fun h => a h.1)])
    clear e4 e100 e400 a
    go_enter Tryz.func50, Tryz.ntmps50
    go_wp2_with fail
    go_ret
    exact ⟨by rw [HR.out]; rfl, rfl⟩

theorem monthDays_any (y m : Nat) (w : World) (h : y ≤ 10000) (h1 : 1 ≤ m) (h2 : m ≤ 12) : Calls Tryz.prog 51 #[.int .i64 y, .int .i64 m] w fun e w' => e = .returned (.int .i64 (mDays y m : Nat)) ∧ w = w' := by
  have hy := yDays_le y
  have hm : m = 1 ∨ m = 2 ∨ m = 3 ∨ m = 4 ∨ m = 5 ∨ m = 6 ∨ m = 7 ∨ m = 8 ∨ m = 9 ∨ m = 10 ∨ m = 11 ∨ m = 12 := by omega
  rcases hm with rfl | rfl | rfl | rfl | rfl | rfl | rfl | rfl | rfl | rfl | rfl | rfl
  all_goals
    go_enter Tryz.func51, Tryz.ntmps51
    go_wp2_with (go_at_call 50; go_must (refine (yearDays_any y _ h).mono ?_); rintro e w1 ⟨rfl, rfl⟩)
    go_ret
    refine ⟨?_, rfl⟩
    simp [mDays]
    try omega

theorem truth_any (b : Bool) (w : World) : Calls Tryz.prog 80 #[.bool b] w fun e w' => e = .returned (.string ⟨(Lib.formatBool b).toArray⟩) ∧ w = w' := by
  cases b
  all_goals
    go_enter Tryz.func80, Tryz.ntmps80
    go_wp2_with fail
    go_ret
    exact ⟨rfl, rfl⟩

theorem inRange_any (n m : Int) (v : Bool) (w : World) (h : decide (0 ≤ n ∧ n ≤ m) = v) : Calls Tryz.prog 22 #[.int .i64 n, .int .i64 m] w fun e w' => e = .returned (.bool v) ∧ w = w' := by
  subst h
  by_cases h0 : 0 ≤ n
  · go_enter Tryz.func22, Tryz.ntmps22
    go_wp2_with fail
    go_ret
    exact ⟨ret_bool (by simp [h0]), rfl⟩
  · go_enter Tryz.func22, Tryz.ntmps22
    go_wp2_with fail
    go_ret
    exact ⟨ret_bool (by simp; omega), rfl⟩

theorem ret_str {a b : ByteArray} (h : a = b) : Ending.returned (.string a) = .returned (.string b) := by rw [h]

theorem ret_three {a b c a' b' c' : Int} (h1 : a = a') (h2 : b = b') (h3 : c = c') : Ending.returned (.tuple #[.int .i64 a, .int .i64 b, .int .i64 c]) = .returned (.tuple #[.int .i64 a', .int .i64 b', .int .i64 c']) := by rw [h1, h2, h3]

/-- three numbers -/
def DateRes (n : Nat) (w : World) (e : Ending) (w' : World) : Prop := e = .returned (.tuple #[.int .i64 (dateZ n).1, .int .i64 (dateZ n).2.1, .int .i64 (dateZ n).2.2]) ∧ w = w'

set_option maxHeartbeats 1000000 in
theorem date_any (n : Nat) (w : World) (h : n ≤ 84005) : Calls Tryz.prog 81 #[.int .i64 n] w (DateRes n w) := by
  obtain ⟨z, hz⟩ : ∃ z, n + 719468 = z := ⟨_, rfl⟩
  obtain ⟨era, he⟩ : ∃ x, z / 146097 = x := ⟨_, rfl⟩
  obtain ⟨doe, hdoe⟩ : ∃ x, z - era * 146097 = x := ⟨_, rfl⟩
  have bdoe : doe ≤ 146096 := by omega
  have hok := doy_ok bdoe
  obtain ⟨a, ha⟩ : ∃ x, doe / 1460 = x := ⟨_, rfl⟩
  obtain ⟨b, hb⟩ : ∃ x, doe / 36524 = x := ⟨_, rfl⟩
  obtain ⟨c, hc⟩ : ∃ x, doe / 146096 = x := ⟨_, rfl⟩
  obtain ⟨d1, hd1⟩ : ∃ x, doe - a = x := ⟨_, rfl⟩
  obtain ⟨d2, hd2⟩ : ∃ x, d1 + b = x := ⟨_, rfl⟩
  obtain ⟨d3, hd3⟩ : ∃ x, d2 - c = x := ⟨_, rfl⟩
  obtain ⟨yoe, hyoe⟩ : ∃ x, d3 / 365 = x := ⟨_, rfl⟩
  have hy2 : yoeOf doe = yoe := by unfold yoeOf; rw [ha, hb, hc, hd1, hd2, hd3, hyoe]
  rw [hy2] at hok
  obtain ⟨p, hp⟩ : ∃ x, 365 * yoe = x := ⟨_, rfl⟩
  obtain ⟨y4, hy4⟩ : ∃ x, yoe / 4 = x := ⟨_, rfl⟩
  obtain ⟨y100, hy100⟩ : ∃ x, yoe / 100 = x := ⟨_, rfl⟩
  obtain ⟨p2, hp2⟩ : ∃ x, p + y4 = x := ⟨_, rfl⟩
  obtain ⟨p3, hp3⟩ : ∃ x, p2 - y100 = x := ⟨_, rfl⟩
  obtain ⟨doy, hdoy⟩ : ∃ x, doe - p3 = x := ⟨_, rfl⟩
  obtain ⟨q, hq⟩ : ∃ x, 5 * doy = x := ⟨_, rfl⟩
  obtain ⟨q2, hq2⟩ : ∃ x, q + 2 = x := ⟨_, rfl⟩
  obtain ⟨mp, hmp⟩ : ∃ x, q2 / 153 = x := ⟨_, rfl⟩
  obtain ⟨r, hr⟩ : ∃ x, 153 * mp = x := ⟨_, rfl⟩
  obtain ⟨r2, hr2⟩ : ∃ x, r + 2 = x := ⟨_, rfl⟩
  obtain ⟨t, ht⟩ : ∃ x, r2 / 5 = x := ⟨_, rfl⟩
  obtain ⟨g, hg⟩ : ∃ x, era * 400 = x := ⟨_, rfl⟩
  have HD := Lib.hid (show dateZ n = (if (if 12 < mp + 3 then mp + 3 - 12 else mp + 3) ≤ 2 then yoe + g + 1 else yoe + g, if 12 < mp + 3 then mp + 3 - 12 else mp + 3, doy - t + 1) by
    unfold dateZ
    simp only [hz, he, hdoe, ha, hb, hc, hd1, hd2, hd3, hyoe, hp, hy4, hy100, hp2, hp3, hdoy, hq, hq2, hmp, hr, hr2, ht, hg])
  rw [hp, hy4, hy100, hp2, hp3] at hok
  have i1 : (n : Int) + 719468 = (z : Int) := by omega
  have i2 : (z : Int) / 146097 = (era : Int) := by omega
  have i3 : (z : Int) - (era : Int) * 146097 = (doe : Int) := by omega
  have i4 : (doe : Int) / 1460 = (a : Int) := by omega
  have i5 : (doe : Int) - (a : Int) = (d1 : Int) := by omega
  have i6 : (doe : Int) / 36524 = (b : Int) := by omega
  have i7 : (d1 : Int) + (b : Int) = (d2 : Int) := by omega
  have i8 : (doe : Int) / 146096 = (c : Int) := by omega
  have i9 : (d2 : Int) - (c : Int) = (d3 : Int) := by omega
  have i10 : (d3 : Int) / 365 = (yoe : Int) := by omega
  have i11 : 365 * (yoe : Int) = (p : Int) := by omega
  have i12 : (yoe : Int) / 4 = (y4 : Int) := by omega
  have i13 : (p : Int) + (y4 : Int) = (p2 : Int) := by omega
  have i14 : (yoe : Int) / 100 = (y100 : Int) := by omega
  have i15 : (p2 : Int) - (y100 : Int) = (p3 : Int) := by omega
  have i16 : (doe : Int) - (p3 : Int) = (doy : Int) := by omega
  have i17 : 5 * (doy : Int) = (q : Int) := by omega
  have i18 : (q : Int) + 2 = (q2 : Int) := by omega
  have i19 : (q2 : Int) / 153 = (mp : Int) := by omega
  have i20 : 153 * (mp : Int) = (r : Int) := by omega
  have i21 : (r : Int) + 2 = (r2 : Int) := by omega
  have i22 : (r2 : Int) / 5 = (t : Int) := by omega
  have i23 : (era : Int) * 400 = (g : Int) := by omega
  have bz : z ≤ 803473 := by omega
  have bera : era ≤ 5 := by omega
  have byoe : yoe ≤ 401 := by omega
  have bmp : mp ≤ 4775 := by omega
  have bt : t ≤ doy := by omega
  have bd2 : d2 ≤ 150000 := by omega
  have bp2 : p2 ≤ 150000 := by omega
  have bdoy : doy ≤ 146096 := by omega
  have bq2 : q2 ≤ 731000 := by omega
  have br2 : r2 ≤ 731000 := by omega
  have bg : g ≤ 2000 := by omega
  clear hz he hdoe hok ha hb hc hd1 hd2 hd3 hyoe hy2 hp hy4 hy100 hp2 hp3 hdoy hq hq2 hmp hr hr2 ht hg
  go_enter Tryz.func81, Tryz.ntmps81
  go_wp2_with fail
  all_goals
    go_ret3
    refine ⟨ret_three ?_ ?_ ?_, rfl⟩
    all_goals
      rw [HD.out]
      dsimp only
      (repeat' split) <;> omega

end Go.Proofs.YtnanogcppglapaaGreatDoor
