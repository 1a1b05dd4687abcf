/-
  Values as strings and as truth: tmpl.Show, mastref1.Shown, tmpl.Truth, mastref1.IsTrue.
-/
import Derived.Test.YtnanogcppglapaaGreatDoorFShow2
namespace Go.Proofs.YtnanogcppglapaaGreatDoor
open Go.RowKit Go.Deep

/-- a value's string, and the error -/
def showV (k : Int) (b : Bool) (i : Int) (t : ByteArray) : ByteArray × Int :=
  if k = 0 then (⟨#[]⟩, 0) else if k = 1 then (⟨(Lib.formatBool b).toArray⟩, 0) else if k = 2 then (⟨(Lib.itoa i).toArray⟩, 0) else if k = 3 ∨ k = 7 then (t, 0)
  else if k = 4 then (if i < 0 ∨ 84005 < i then (⟨#[]⟩, 2) else (dateS i.toNat, 0)) else (⟨#[]⟩, 10)

def truthV (k : Int) (b : Bool) (i : Int) (t : ByteArray) (n : Nat) : Bool :=
  if k = 0 then false else if k = 1 then b else if k = 2 then (i != 0) else if k = 3 ∨ k = 7 then !t.toList.isEmpty else if k = 5 ∨ k = 6 then decide (0 < n) else true

abbrev valV (k : Int) (b : Bool) (i : Int) (t : ByteArray) (A : Option Addr) (n c : Nat) (E : Option Addr) (m d : Nat) : Value := .agg #[.int .i64 k, .bool b, .int .i64 i, .string t, .slice A n c, .slice E m d]

def ShowRes (p : ByteArray × Int) (w : World) (e : Ending) (w' : World) : Prop := e = .returned (.tuple #[.string p.1, .int .i64 p.2]) ∧ Below w.heap.size w w'
theorem ret_show {a : ByteArray} {x : Int} {p : ByteArray × Int} (h : p = (a, x)) : Ending.returned (.tuple #[.string a, .int .i64 x]) = .returned (.tuple #[.string p.1, .int .i64 p.2]) := by rw [h]

set_option maxRecDepth 100000 in
set_option maxHeartbeats 2000000 in
theorem show_any (k : Int) (b : Bool) (i : Int) (t : ByteArray) (A : Option Addr) (n c : Nat) (E : Option Addr) (m d : Nat) (w : World) (hi : I64 i) (ht : TabOk w) :
    Calls Tryz.prog 46 #[valV k b i t A n c E m d] w (ShowRes (showV k b i t) w) := by
  have HT := Lib.hid ht
  have HT1 := Lib.hid (ht.keep ((Below.refl _ _).alloc (Nat.le_refl _) (.cells #[.int .i64 k, .bool b, .int .i64 i, .string t, .slice A n c, .slice E m d] 94))); clear ht
  have HIi := Lib.hid hi; clear hi
  have hx : k = 0 ∨ k = 1 ∨ k = 2 ∨ k = 3 ∨ k = 7 ∨ (k = 4 ∧ i < 0) ∨ (k = 4 ∧ 84005 < i) ∨ (k = 4 ∧ 0 ≤ i ∧ i ≤ 84005) ∨ (k ≠ 0 ∧ k ≠ 1 ∧ k ≠ 2 ∧ k ≠ 3 ∧ k ≠ 7 ∧ k ≠ 4) := by omega
  rcases hx with hx | hx | hx | hx | hx | hx | hx | hx | hx
  · have HS := Lib.hid (show showV k b i t = (⟨#[]⟩, 0) by unfold showV; rw [if_pos hx])
    have t0 : (k == 0) = true := by simp; omega
    have t1 : (k == 1) = false := by simp; omega
    have t2 : (k == 2) = false := by simp; omega
    have t3 : (k == 3) = false := by simp; omega
    have t7 : (k == 7) = false := by simp; omega
    have t4 : (k == 4) = false := by simp; omega
    clear hx
    go_enter Tryz.func46, Tryz.ntmps46
    go_wp2_with fail
    go_ret2
    exact ⟨ret_show HS.out, (Below.refl _ _).alloc (Nat.le_refl _) _⟩
  · have HS := Lib.hid (show showV k b i t = (⟨(Lib.formatBool b).toArray⟩, 0) by unfold showV; rw [if_neg (by omega), if_pos hx])
    have t0 : (k == 0) = false := by simp; omega
    have t1 : (k == 1) = true := by simp; omega
    have t2 : (k == 2) = false := by simp; omega
    have t3 : (k == 3) = false := by simp; omega
    have t7 : (k == 7) = false := by simp; omega
    have t4 : (k == 4) = false := by simp; omega
    clear hx
    go_enter Tryz.func46, Tryz.ntmps46
    go_wp2_with (go_at_call 80; go_must (refine (truth_any b _).mono ?_); rintro e w1 ⟨rfl, rfl⟩)
    go_ret2
    exact ⟨ret_show HS.out, (Below.refl _ _).alloc (Nat.le_refl _) _⟩
  · have HS := Lib.hid (show showV k b i t = (⟨(Lib.itoa i).toArray⟩, 0) by unfold showV; rw [if_neg (by omega), if_neg (by omega), if_pos hx])
    have t0 : (k == 0) = false := by simp; omega
    have t1 : (k == 1) = false := by simp; omega
    have t2 : (k == 2) = true := by simp; omega
    have t3 : (k == 3) = false := by simp; omega
    have t7 : (k == 7) = false := by simp; omega
    have t4 : (k == 4) = false := by simp; omega
    clear hx
    go_enter Tryz.func46, Tryz.ntmps46
    go_wp2_with fail
    refine (itoa_any i _ HIi.out HT1.out).mono ?_
    rintro e w1 ⟨rfl, hb⟩
    have HB := Lib.hid (((Below.refl w.heap.size w).alloc (Nat.le_refl _) _).trans (hb.mono (by simp))); clear hb
    go_wp2_with fail
    go_ret2
    exact ⟨ret_show HS.out, HB.out⟩
  · have HS := Lib.hid (show showV k b i t = (t, 0) by unfold showV; rw [if_neg (by omega), if_neg (by omega), if_neg (by omega), if_pos (by omega)])
    have t0 : (k == 0) = false := by simp; omega
    have t1 : (k == 1) = false := by simp; omega
    have t2 : (k == 2) = false := by simp; omega
    have t3 : (k == 3) = true := by simp; omega
    have t7 : (k == 7) = false := by simp; omega
    have t4 : (k == 4) = false := by simp; omega
    clear hx
    go_enter Tryz.func46, Tryz.ntmps46
    go_wp2_with fail
    go_ret2
    exact ⟨ret_show HS.out, (Below.refl _ _).alloc (Nat.le_refl _) _⟩
  · have HS := Lib.hid (show showV k b i t = (t, 0) by unfold showV; rw [if_neg (by omega), if_neg (by omega), if_neg (by omega), if_pos (by omega)])
    have t0 : (k == 0) = false := by simp; omega
    have t1 : (k == 1) = false := by simp; omega
    have t2 : (k == 2) = false := by simp; omega
    have t3 : (k == 3) = false := by simp; omega
    have t7 : (k == 7) = true := by simp; omega
    have t4 : (k == 4) = false := by simp; omega
    clear hx
    go_enter Tryz.func46, Tryz.ntmps46
    go_wp2_with fail
    go_ret2
    exact ⟨ret_show HS.out, (Below.refl _ _).alloc (Nat.le_refl _) _⟩
  · have HS := Lib.hid (show showV k b i t = (⟨#[]⟩, 2) by unfold showV; rw [if_neg (by omega), if_neg (by omega), if_neg (by omega), if_neg (by omega), if_pos hx.1, if_pos (Or.inl hx.2)])
    have t0 : (k == 0) = false := by simp; omega
    have t1 : (k == 1) = false := by simp; omega
    have t2 : (k == 2) = false := by simp; omega
    have t3 : (k == 3) = false := by simp; omega
    have t7 : (k == 7) = false := by simp; omega
    have t4 : (k == 4) = true := by simp; omega
    have g1 : decide (i < 0) = true := by simp; omega
    clear hx
    go_enter Tryz.func46, Tryz.ntmps46
    go_wp2_with fail
    go_ret2
    exact ⟨ret_show HS.out, (Below.refl _ _).alloc (Nat.le_refl _) _⟩
  · have HS := Lib.hid (show showV k b i t = (⟨#[]⟩, 2) by unfold showV; rw [if_neg (by omega), if_neg (by omega), if_neg (by omega), if_neg (by omega), if_pos hx.1, if_pos (Or.inr hx.2)])
    have t0 : (k == 0) = false := by simp; omega
    have t1 : (k == 1) = false := by simp; omega
    have t2 : (k == 2) = false := by simp; omega
    have t3 : (k == 3) = false := by simp; omega
    have t7 : (k == 7) = false := by simp; omega
    have t4 : (k == 4) = true := by simp; omega
    have g1 : decide (i < 0) = false := by simp; omega
    have g2 : decide (84005 < i) = true := by simp; omega
    clear hx
    go_enter Tryz.func46, Tryz.ntmps46
    go_wp2_with fail
    go_ret2
    exact ⟨ret_show HS.out, (Below.refl _ _).alloc (Nat.le_refl _) _⟩
  · have HS := Lib.hid (show showV k b i t = (dateS i.toNat, 0) by unfold showV; rw [if_neg (by omega), if_neg (by omega), if_neg (by omega), if_neg (by omega), if_pos hx.1, if_neg (by omega)])
    have t0 : (k == 0) = false := by simp; omega
    have t1 : (k == 1) = false := by simp; omega
    have t2 : (k == 2) = false := by simp; omega
    have t3 : (k == 3) = false := by simp; omega
    have t7 : (k == 7) = false := by simp; omega
    have t4 : (k == 4) = true := by simp; omega
    have g1 : decide (i < 0) = false := by simp; omega
    have g2 : decide (84005 < i) = false := by simp; omega
    obtain ⟨j, rfl⟩ := Int.eq_ofNat_of_zero_le hx.2.1
    have hj : j ≤ 84005 := by omega
    obtain ⟨c1, c2, c3, c4, c5⟩ := civil_date hj
    have HDS := Lib.hid (show dateS j = yearS (dateZ j).1 ++ ⟨#[45]⟩ ++ twoS (dateZ j).2.1 ++ ⟨#[45]⟩ ++ twoS (dateZ j).2.2 from rfl)
    rw [Int.toNat_natCast] at HS
    clear hx
    go_enter Tryz.func46, Tryz.ntmps46
    go_wp2_with fail
    refine (date_any j _ hj).mono ?_
    rintro e w1 ⟨rfl, rfl⟩
    obtain ⟨y, hy⟩ : ∃ y, (dateZ j).1 = y := ⟨_, rfl⟩
    obtain ⟨mo, hmo⟩ : ∃ y, (dateZ j).2.1 = y := ⟨_, rfl⟩
    obtain ⟨da, hda⟩ : ∃ y, (dateZ j).2.2 = y := ⟨_, rfl⟩
    rw [hy, hmo, hda]
    rw [hy, hmo, hda] at HDS
    rw [hy] at c1 c2
    rw [hmo] at c3 c4
    rw [hda] at c5
    clear hy hmo hda
    have z1 := twoS_le (n := mo) (by omega)
    have z2 := twoS_le (n := da) (by omega)
    have z3 := year_size (y := y) (by omega) (by omega)
    have z4 : (yearS y).size ≤ 4 := by omega
    clear z3
    go_wp2_with fail
    refine (padded_year y _ (by omega) (by omega) HT1.out).mono ?_
    rintro e w2 ⟨rfl, hb⟩
    have HB := Lib.hid (((Below.refl w.heap.size w).alloc (Nat.le_refl _) _).trans (hb.mono (by simp))); clear hb
    go_wp2_with fail
    refine (padded_two mo _ (by omega)).mono ?_
    rintro e w3 ⟨rfl, rfl⟩
    go_wp2_with fail
    refine (padded_two da _ (by omega)).mono ?_
    rintro e w4 ⟨rfl, rfl⟩
    go_wp2_with fail
    go_ret2
    exact ⟨ret_show (by rw [HS.out, HDS.out]), HB.out⟩
  · have HS := Lib.hid (show showV k b i t = (⟨#[]⟩, 10) by unfold showV; rw [if_neg (by omega), if_neg (by omega), if_neg (by omega), if_neg (by omega), if_neg (by omega)])
    have t0 : (k == 0) = false := by simp; omega
    have t1 : (k == 1) = false := by simp; omega
    have t2 : (k == 2) = false := by simp; omega
    have t3 : (k == 3) = false := by simp; omega
    have t7 : (k == 7) = false := by simp; omega
    have t4 : (k == 4) = false := by simp; omega
    clear hx
    go_enter Tryz.func46, Tryz.ntmps46
    go_wp2_with fail
    go_ret2
    exact ⟨ret_show HS.out, (Below.refl _ _).alloc (Nat.le_refl _) _⟩
end Go.Proofs.YtnanogcppglapaaGreatDoor
