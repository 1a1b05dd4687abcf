/-
  Numbers and dates as strings: strconv.Itoa by its contract, tmpl.padded, mastref1.two, mastref1.DateOf.
-/
import Derived.Test.YtnanogcppglapaaGreatDoorBox
import Derived.Test.YtnanogcppglapaaGreatDoorDates
import Derived.Test.YtnanogcppglapaaGreatDoorDateCheck
import Derived.Lib.LaidTab
import Derived.Lib.AppendIntMem
namespace Go.Proofs.YtnanogcppglapaaGreatDoor
open Go.RowKit Go.Deep

theorem itoa_small (n : Nat) (w : World) (h : n < 100) : Calls Tryz.prog 52 #[.int .i64 n] w fun e w' => e = .returned (.string ⟨(Lib.decDigits n).toArray⟩) ∧ w = w' :=
  (Tryz.strconv_Itoa_small n h w).mono fun _ _ ⟨he, hw⟩ => ⟨he, hw.symm⟩

def digS (n : Nat) : ByteArray := ⟨(Lib.decDigits n).toArray⟩
def twoS (n : Nat) : ByteArray := if n < 10 then ⟨#[48]⟩ ++ digS n else digS n

theorem dig_one {n : Nat} (h : n < 10) : (digS n).size = 1 := by
  unfold digS
  rw [Lib.decDigits, dif_pos h]
  rfl
theorem dig_two {n : Nat} (h1 : 10 ≤ n) (h2 : n < 100) : (digS n).size = 2 := by
  unfold digS
  rw [Lib.decDigits, dif_neg (by omega), Lib.decDigits, dif_pos (by omega)]
  rfl
theorem dig_four {n : Nat} (h1 : 1000 ≤ n) (h2 : n < 10000) : (Lib.decDigits n).length = 4 := by
  rw [Lib.decDigits, dif_neg (by omega), Lib.decDigits, dif_neg (by omega), Lib.decDigits, dif_neg (by omega), Lib.decDigits, dif_pos (by omega)]
  rfl

theorem padded_two (n : Nat) (w : World) (h : n < 100) : Calls Tryz.prog 82 #[.int .i64 n, .int .i64 2] w fun e w' => e = .returned (.string (twoS n)) ∧ w = w' := by
  by_cases h10 : n < 10
  · have hs := dig_one h10
    have HR := Lib.hid (show twoS n = ⟨#[48]⟩ ++ digS n by unfold twoS; rw [if_pos h10])
    have HS := Lib.hid hs; clear hs
    go_enter Tryz.func82, Tryz.ntmps82
    go_wp2_with fail
    refine (itoa_small n _ h).mono ?_
    rw [show (⟨(Lib.decDigits n).toArray⟩ : ByteArray) = digS n from rfl]
    rintro e w1 ⟨rfl, rfl⟩
    go_wp2_with fail
    go_loopw [5] (fun t wr => ∃ u : ByteArray, t = .string u ∧ EqW wr w ∧ Hid (u = digS n ∨ u = ⟨#[48]⟩ ++ digS n)) (fun t _ => match t with | .string u => 2 - u.size | _ => 0)
    case atStart => exact ⟨_, rfl, EqW.refl _, Or.inl rfl⟩
    case round =>
      obtain ⟨u, rfl, hww, hu⟩ := hrel
      unfold EqW at hww
      subst hww
      rcases hu.out with hu1 | hu1
      · have hsz : u.size = 1 := by rw [hu1]; exact HS.out
        have hsz2 : (u.size : Int) < 2 := by omega
        have hsz3 : u.size ≤ 1 := by omega
        have HU := Lib.hid hu1; clear hu1 hu
        have HZ := Lib.hid hsz; clear hsz
        go_wp2_with fail
        go_roundw
        case rel => exact ⟨_, rfl, EqW.refl _, Or.inr (by rw [HU.out])⟩
        case measure => simp only [ByteArray.size_append]; show 2 - (1 + u.size) < 2 - u.size; have := HZ.out; omega
      · have hsz : u.size = 2 := by rw [hu1, ByteArray.size_append, HS.out]; rfl
        have hsz2 : ¬ (u.size : Int) < 2 := by omega
        have hsz3 : 2 ≤ u.size := by omega
        have HU := Lib.hid (hu1.trans HR.out.symm); clear hu1 hu
        have HZ := Lib.hid hsz; clear hsz
        go_wp2_with fail
        go_ret
        exact ⟨ret_str HU.out, rfl⟩
  · have hs := dig_two (by omega) h
    have HR := Lib.hid (show twoS n = digS n by unfold twoS; rw [if_neg h10])
    have hsz3 : 2 ≤ (digS n).size := by omega
    clear hs
    go_enter Tryz.func82, Tryz.ntmps82
    go_wp2_with fail
    refine (itoa_small n _ h).mono ?_
    rw [show (⟨(Lib.decDigits n).toArray⟩ : ByteArray) = digS n from rfl]
    rintro e w1 ⟨rfl, rfl⟩
    go_wp2_with fail
    go_loopw [5] (fun t wr => t = .string (digS n) ∧ EqW wr w) (fun _ _ => 0)
    case atStart => exact ⟨rfl, EqW.refl _⟩
    case round =>
      obtain ⟨rfl, hww⟩ := hrel
      unfold EqW at hww
      subst hww
      go_wp2_with fail
      go_ret
      exact ⟨ret_str HR.out.symm, rfl⟩

theorem two_any (n : Nat) (w : World) (h : n < 100) : Calls Tryz.prog 53 #[.int .i64 n] w fun e w' => e = .returned (.string (twoS n)) ∧ w = w' := by
  by_cases h10 : n < 10
  · have HR := Lib.hid (show twoS n = ⟨#[48]⟩ ++ digS n by unfold twoS; rw [if_pos h10])
    have hs := dig_one h10
    have hs2 : (digS n).size ≤ 1 := by omega
    clear hs
    go_enter Tryz.func53, Tryz.ntmps53
    go_wp2_with fail
    refine (itoa_small n _ h).mono ?_
    rw [show (⟨(Lib.decDigits n).toArray⟩ : ByteArray) = digS n from rfl]
    rintro e w1 ⟨rfl, rfl⟩
    go_wp2_with fail
    go_ret
    exact ⟨ret_str HR.out.symm, rfl⟩
  · have HR := Lib.hid (show twoS n = digS n by unfold twoS; rw [if_neg h10])
    go_enter Tryz.func53, Tryz.ntmps53
    go_wp2_with fail
    refine (itoa_small n _ h).mono ?_
    rw [show (⟨(Lib.decDigits n).toArray⟩ : ByteArray) = digS n from rfl]
    rintro e w1 ⟨rfl, rfl⟩
    go_wp2_with fail
    go_ret
    exact ⟨ret_str HR.out.symm, rfl⟩

end Go.Proofs.YtnanogcppglapaaGreatDoor
