/-
  Dates as strings: tmpl.padded at a year, mastref1.DateOf.
-/
import Derived.Test.YtnanogcppglapaaGreatDoorFShow1
namespace Go.Proofs.YtnanogcppglapaaGreatDoor
open Go.RowKit Go.Deep

def yearS (y : Nat) : ByteArray := ⟨(Lib.itoa (y : Int)).toArray⟩
theorem year_size {y : Nat} (h1 : 1000 ≤ y) (h2 : y < 10000) : (yearS y).size = 4 := by
  unfold yearS Lib.itoa
  rw [if_neg (by omega), Int.toNat_natCast]
  have := dig_four h1 h2
  show (Lib.decDigits y).toArray.size = 4
  simpa using this

theorem padded_year (y : Nat) (w : World) (h1 : 1000 ≤ y) (h2 : y < 10000) (ht : TabOk w) : Calls Tryz.prog 82 #[.int .i64 y, .int .i64 4] w fun e w' => e = .returned (.string (yearS y)) ∧ Below w.heap.size w w' := by
  have hs := year_size h1 h2
  have hs2 : 4 ≤ (yearS y).size := by omega
  have HT := Lib.hid ht; clear ht hs
  go_enter Tryz.func82, Tryz.ntmps82
  go_wp2_with fail
  refine (itoa_any y _ ⟨by omega, by omega⟩ HT.out).mono ?_
  rw [show (⟨(Lib.itoa (y : Int)).toArray⟩ : ByteArray) = yearS y from rfl]
  rintro e w1 ⟨rfl, hb⟩
  have HB := Lib.hid hb; clear hb
  go_wp2_with fail
  go_loopw [5] (fun t wr => t = .string (yearS y) ∧ EqW wr w1) (fun _ _ => 0)
  case atStart => exact ⟨rfl, EqW.refl _⟩
  case round =>
    obtain ⟨rfl, hww⟩ := hrel
    unfold EqW at hww
    subst hww
    go_wp2_with fail
    go_ret
    exact ⟨rfl, HB.out⟩

theorem mDays_pos (y m : Nat) : 28 ≤ mDays y m ∧ mDays y m ≤ 31 := by
  have h := yDays_le y
  unfold mDays
  split
  · omega
  · split <;> omega

/-- every day has its year, month and day of the month -/
theorem civil : ∀ n : Nat, n ≤ 84005 → ∃ y m d, 1970 ≤ y ∧ y ≤ 2199 ∧ 1 ≤ m ∧ m ≤ 12 ∧ d < mDays y m ∧ n = yStart y + mStart y m + d
  | 0, _ => ⟨1970, 1, 0, by omega, by omega, by omega, by omega, by have := mDays_pos 1970 1; omega, by decide⟩
  | n + 1, h => by
    obtain ⟨y, m, d, h1, h2, h3, h4, h5, h6⟩ := civil n (by omega)
    by_cases hd : d + 1 < mDays y m
    · exact ⟨y, m, d + 1, h1, h2, h3, h4, hd, by omega⟩
    · by_cases hm : m < 12
      · have e := mStart_succ y m h3 (by omega)
        exact ⟨y, m + 1, 0, h1, h2, by omega, by omega, by have := mDays_pos y (m + 1); omega, by omega⟩
      · obtain rfl : m = 12 := by omega
        have e := mStart_end y
        have e2 := yStart_succ y h1
        have e3 : mStart (y + 1) 1 = 0 := rfl
        by_cases hy : y = 2199
        · subst hy
          have e4 : yStart 2199 = 83641 := by decide
          have e5 : yDays 2199 = 365 := by decide
          omega
        · exact ⟨y + 1, 1, 0, by omega, by omega, by omega, by omega, by have := mDays_pos (y + 1) 1; omega, by omega⟩

theorem civil_date {n : Nat} (h : n ≤ 84005) : 1970 ≤ (dateZ n).1 ∧ (dateZ n).1 ≤ 2199 ∧ 1 ≤ (dateZ n).2.1 ∧ (dateZ n).2.1 ≤ 12 ∧ (dateZ n).2.2 ≤ 31 := by
  obtain ⟨y, m, d, h1, h2, h3, h4, h5, h6⟩ := civil n h
  rw [h6, dateZ_at h1 h2 h3 h4 h5]
  have := mDays_pos y m
  exact ⟨h1, h2, h3, h4, by show d + 1 ≤ 31; omega⟩

/-- a day as YYYY-MM-DD -/
def dateS (n : Nat) : ByteArray := yearS (dateZ n).1 ++ ⟨#[45]⟩ ++ twoS (dateZ n).2.1 ++ ⟨#[45]⟩ ++ twoS (dateZ n).2.2

theorem results_4 {fn : Func} {t u v x : Tmp} (h : fn.results = #[.tmp t, .tmp u, .tmp v, .tmp x]) (tmps : Array Value) (P : Program) (w : World) :
    (results fn tmps).run P w = .ok (.tuple #[tmps.getD t undef, tmps.getD u undef, tmps.getD v undef, tmps.getD x undef]) w := by simp [results, h]

def FourRes (n : Nat) (w : World) (e : Ending) (w' : World) : Prop := (∃ a b c, e = .returned (.tuple #[.string (dateS n), a, b, c])) ∧ Below w.heap.size w w'

theorem twoS_le {n : Nat} (h : n < 100) : (twoS n).size ≤ 3 := by
  unfold twoS
  split
  · next h10 => rw [ByteArray.size_append, dig_one h10]; show 1 + 1 ≤ 3; omega
  · rw [dig_two (by omega) h]; omega

set_option maxRecDepth 100000 in
set_option maxHeartbeats 1000000 in
theorem dateOf_any (n : Nat) (w : World) (h : n ≤ 84005) (ht : TabOk w) : Calls Tryz.prog 26 #[.int .i64 n] w (FourRes n w) := by
  have HT := Lib.hid ht; clear ht
  go_enter Tryz.func26, Tryz.ntmps26
  go_wp2_with fail
  go_loopw [0, 6] (fun t0 t6 wr => ∃ (y day : Nat), 1970 ≤ y ∧ y ≤ 2199 ∧ t0 = .int .i64 day ∧ t6 = .int .i64 y ∧ day ≤ n ∧ Hid (yStart y + day = n) ∧ EqW wr w) (fun _ t _ => 3000 - (intOf t).toNat)
  case atStart => exact ⟨1970, n, by omega, by omega, rfl, rfl, Nat.le_refl _, (show _ = _ by rw [yStart_1970]; omega), EqW.refl _⟩
  case round =>
    obtain ⟨y, day, hy1, hy2, rfl, rfl, hdn, hst, hww⟩ := hrel
    unfold EqW at hww
    subst hww
    have hyd := yDays_le y
    by_cases hge : yDays y ≤ day
    · have hy3 : y + 1 ≤ 2199 := by
        rcases Nat.lt_or_ge y 2199 with h1 | h1
        · omega
        · have e : y = 2199 := by omega
          have h2 := hst.out
          have h3 := yStart_succ y hy1
          subst e
          have e4 : yStart 2199 = 83641 := by decide
          omega
      have HN := Lib.hid (show yStart (y + 1) + (day - yDays y) = n by rw [yStart_succ y hy1]; have := hst.out; omega)
      have hi : (day : Int) - (yDays y : Int) = ((day - yDays y : Nat) : Int) := by omega
      go_wp2_with (go_at_call 50; go_must (refine (yearDays_any y _ (by omega)).mono ?_); rintro e w1 ⟨rfl, rfl⟩)
      go_roundw
      case rel => exact ⟨y + 1, day - yDays y, by omega, by omega, by first | rfl | go_num, by go_num, by omega, HN, EqW.refl _⟩
      case measure => simp [intOf]; omega
    · have hlt : ¬ yDays y ≤ day := hge
      go_wp2_with (go_at_call 50; go_must (refine (yearDays_any y _ (by omega)).mono ?_); rintro e w1 ⟨rfl, rfl⟩)
      obtain ⟨wo, rfl⟩ : ∃ wo : World, wo = wr := ⟨_, rfl⟩
      have hlt2 : day < yDays y := by omega
      clear hge hlt
      go_loopw [0, 7] (fun t0 t7 w8 => ∃ (m d : Nat), 1 ≤ m ∧ m ≤ 12 ∧ t0 = .int .i64 d ∧ t7 = .int .i64 m ∧ d ≤ day ∧ Hid (mStart y m + d = day) ∧ EqW w8 wo) (fun _ t _ => 13 - (intOf t).toNat)
      case atStart => exact ⟨1, day, by omega, by omega, rfl, rfl, Nat.le_refl _, (show _ = _ by show 0 + day = day; omega), EqW.refl _⟩
      case round =>
        obtain ⟨m, d, hm1, hm2, rfl, rfl, hdd, hms, hw8⟩ := hrel
        unfold EqW at hw8
        subst hw8
        have hmd := mDays_pos y m
        by_cases hge : mDays y m ≤ d
        · have hm3 : m ≤ 11 := by
            rcases Nat.lt_or_ge m 12 with h1 | h1
            · omega
            · have e : m = 12 := by omega
              have h2 := hms.out
              subst e
              have h3 := mStart_end y
              omega
          have HN := Lib.hid (show mStart y (m + 1) + (d - mDays y m) = day by rw [mStart_succ y m hm1 hm3]; have := hms.out; omega)
          have hi : (d : Int) - (mDays y m : Int) = ((d - mDays y m : Nat) : Int) := by omega
          go_wp2_with (go_at_call 51; go_must (refine (monthDays_any y m _ (by omega) hm1 hm2).mono ?_); rintro e w1 ⟨rfl, rfl⟩)
          go_roundw
          case rel => exact ⟨m + 1, d - mDays y m, by omega, by omega, by first | rfl | go_num, by go_num, by omega, HN, EqW.refl _⟩
          case measure => simp [intOf]; omega
        · have hlt : d < mDays y m := by omega
          have HDt := Lib.hid (show dateZ n = (y, m, d + 1) by rw [← dateZ_at hy1 hy2 hm1 hm2 hlt, hst.out.symm, ← hms.out, Nat.add_assoc])
          have HDS := Lib.hid (show dateS n = yearS y ++ ⟨#[45]⟩ ++ twoS m ++ ⟨#[45]⟩ ++ twoS (d + 1) by unfold dateS; rw [HDt.out])
          have z1 := twoS_le (n := m) (by omega)
          have z2 := twoS_le (n := d + 1) (by omega)
          have z3 := year_size (y := y) (by omega) (by omega)
          have z4 : (yearS y).size ≤ 4 := by omega
          clear z3
          go_wp2_with (go_at_call 51; go_must (refine (monthDays_any y m _ (by omega) hm1 hm2).mono ?_); rintro e w1 ⟨rfl, rfl⟩)
          refine (itoa_any y _ ⟨by omega, by omega⟩ HT.out).mono ?_
          rw [show (⟨(Lib.itoa (y : Int)).toArray⟩ : ByteArray) = yearS y from rfl]
          rintro e w1 ⟨rfl, hb⟩
          have HB := Lib.hid hb; clear hb
          go_wp2_with fail
          refine (two_any m _ (by omega)).mono ?_
          rintro e w2 ⟨rfl, rfl⟩
          go_wp2_with fail
          have hd1 : (d : Int) + 1 = ((d + 1 : Nat) : Int) := by omega
          rw [hd1]
          refine (two_any (d + 1) _ (by omega)).mono ?_
          rintro e w3 ⟨rfl, rfl⟩
          clear hd1
          go_wp2_with fail
          refine bodyPost_ret (results_4 rfl _ _ _) rfl ?_
          exact ⟨⟨.int .i64 y, .int .i64 m, .int .i64 ((d : Int) + 1), by rw [HDS.out]; rfl⟩, HB.out⟩

end Go.Proofs.YtnanogcppglapaaGreatDoor
