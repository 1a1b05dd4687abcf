/-
  tmpl.Compare and mastref1.Compared on values: both compute 'cmpV'.
-/
import Derived.Test.YtbkgkmmjlihpeaaBase
import Derived.Test.YtbkgkmmjlihpeaaShelf
import Derived.Outline
import Derived.RegionTactic
import Derived.Deep.DeepMust
import Derived.Deep.Light
namespace Go.Proofs.Ytbkgkmmjlihpeaa
open Go.RowKit Go.Deep

/-- the order of two numbers -/
def ordN (a b : Int) : Int := if a < b then -1 else if b < a then 1 else 0

/-- the order of two values by kind, truth, number and text: the order, and the error -/
def cmpV (ka : Int) (ba : Bool) (ia : Int) (ta : ByteArray) (kb : Int) (bb : Bool) (ib : Int) (tb : ByteArray) : Int × Int :=
  if ka = 0 ∧ kb = 0 then (0, 0)
  else if ka = 1 ∧ kb = 1 then (if ba = bb then 0 else if bb then -1 else 1, 0)
  else if ka = 2 ∧ kb = 2 ∨ ka = 4 ∧ kb = 4 then (ordN ia ib, 0)
  else if (ka = 3 ∨ ka = 7) ∧ (kb = 3 ∨ kb = 7) then (Lib.compareBytes ta.data.toList tb.data.toList, 0)
  else (0, 10)

theorem sign_any (a b : Bool) (w : World) : Calls Try.prog 21 #[.bool a, .bool b] w fun e w' => e = .returned (.int .i64 (if a then -1 else if b then 1 else 0)) ∧ w' = w := by
  cases a <;> cases b <;>
  (go_enter Try.func21, Try.ntmps21
   go_wp2
   go_ret
   exact ⟨rfl, rfl⟩)

theorem order_any (a b : Int) (w : World) : Calls Try.prog 25 #[.int .i64 a, .int .i64 b] w fun e w' => e = .returned (.int .i64 (ordN a b)) ∧ w' = w := by
  by_cases h1 : a < b
  · go_enter Try.func25, Try.ntmps25
    go_wp2
    go_ret
    exact ⟨ret_int (by unfold ordN; split <;> (try split) <;> omega), rfl⟩
  · by_cases h2 : b < a
    · go_enter Try.func25, Try.ntmps25
      go_wp2
      go_ret
      exact ⟨ret_int (by unfold ordN; split <;> (try split) <;> omega), rfl⟩
    · go_enter Try.func25, Try.ntmps25
      go_wp2
      go_ret
      exact ⟨ret_int (by unfold ordN; split <;> (try split) <;> omega), rfl⟩

theorem isText_any (k : Int) (b : Bool) (i : Int) (t : ByteArray) (A1 A2 : Option Addr) (n1 c1 n2 c2 : Nat) (w : World) :
    Calls Try.prog 22 #[.agg #[.int .i64 k, .bool b, .int .i64 i, .string t, .slice A1 n1 c1, .slice A2 n2 c2]] w fun e w' => e = .returned (.bool (k == 3 || k == 7)) ∧ Below w.heap.size w w' := by
  by_cases h3 : k = 3
  · subst h3
    go_enter Try.func22, Try.ntmps22
    go_wp2
    go_ret
    exact ⟨rfl, (Below.refl _ _).alloc (Nat.le_refl _) _⟩
  · have h3' : (k == 3) = false := by simp [h3]
    go_enter Try.func22, Try.ntmps22
    go_wp2
    go_ret
    exact ⟨ret_bool (by simp [h3]), (Below.refl _ _).alloc (Nat.le_refl _) _⟩

set_option maxHeartbeats 4000000 in
theorem compare_any (ka kb ia ib : Int) (ba bb : Bool) (ta tb : ByteArray) (A1 A2 A3 A4 : Option Addr) (n1 c1 n2 c2 n3 c3 n4 c4 : Nat) (w : World) :
    Calls Try.prog 7 #[.agg #[.int .i64 ka, .bool ba, .int .i64 ia, .string ta, .slice A1 n1 c1, .slice A2 n2 c2], .agg #[.int .i64 kb, .bool bb, .int .i64 ib, .string tb, .slice A3 n3 c3, .slice A4 n4 c4]] w
      fun e w' => e = .returned (.tuple #[.int .i64 (cmpV ka ba ia ta kb bb ib tb).1, .int .i64 (cmpV ka ba ia ta kb bb ib tb).2]) ∧ Below w.heap.size w w' := by
  go_enter Try.func7, Try.ntmps7
  go_wp2_with (first
    | (go_at_call 21; refine (sign_any _ _ _).mono ?_; rintro e w' ⟨rfl, rfl⟩)
    | (go_at_call 22; refine (isText_any _ _ _ _ _ _ _ _ _ _ _).mono ?_; rintro e w' ⟨rfl, hb⟩; obtain ⟨hbc, -⟩ := bcell hb; have hz := hb.size; (try simp only [World.size_alloc] at hbc); (try simp only [World.size_alloc] at hz); have hb0 := (fun o => hbc w.heap.size o (by omega)); have hb1 := (fun o => hbc (w.heap.size + 1) o (by omega)); clear hbc; (first | have HA := Lib.hid (HA.out.trans (hb.mono HA.out.size)) | have HA := Lib.hid ((((Below.refl w.heap.size w).alloc (Nat.le_refl _) _).alloc (by simp) _).trans (hb.mono (by simp; omega)))); clear hb)
    | (go_at_call 23; refine (Try.strings_Compare _ _ _).mono ?_; rintro e w' ⟨rfl, rfl⟩))
  all_goals go_ret2
  all_goals refine ⟨ret_pair ?_, ?_⟩
  all_goals first
    | exact ((Below.refl _ _).alloc (Nat.le_refl _) _).alloc (by simp) _
    | exact HA.out
    | skip
  all_goals go_light
  all_goals (try rw [Prod.mk.eta])
  all_goals (try simp only [beq_iff_eq, beq_eq_false_iff_ne, ne_eq] at *)
  all_goals unfold cmpV ordN
  all_goals (repeat' split) <;> first | rfl | (exfalso; omega) | (exfalso; simp_all; done) | (simp_all; done)

theorem isString_any (k : Int) (b : Bool) (i : Int) (t : ByteArray) (A1 A2 : Option Addr) (n1 c1 n2 c2 : Nat) (w : World) :
    Calls Try.prog 24 #[.agg #[.int .i64 k, .bool b, .int .i64 i, .string t, .slice A1 n1 c1, .slice A2 n2 c2]] w fun e w' => e = .returned (.bool (k == 3 || k == 7)) ∧ Below w.heap.size w w' := by
  by_cases h3 : k = 3
  · subst h3
    go_enter Try.func24, Try.ntmps24
    go_wp2
    go_ret
    exact ⟨rfl, (Below.refl _ _).alloc (Nat.le_refl _) _⟩
  · have h3' : (k == 3) = false := by simp [h3]
    go_enter Try.func24, Try.ntmps24
    go_wp2
    go_ret
    exact ⟨ret_bool (by simp [h3]), (Below.refl _ _).alloc (Nat.le_refl _) _⟩

set_option maxHeartbeats 4000000 in
theorem compared_any (ka kb ia ib : Int) (ba bb : Bool) (ta tb : ByteArray) (A1 A2 A3 A4 : Option Addr) (n1 c1 n2 c2 n3 c3 n4 c4 : Nat) (w : World) :
    Calls Try.prog 8 #[.agg #[.int .i64 ka, .bool ba, .int .i64 ia, .string ta, .slice A1 n1 c1, .slice A2 n2 c2], .agg #[.int .i64 kb, .bool bb, .int .i64 ib, .string tb, .slice A3 n3 c3, .slice A4 n4 c4]] w
      fun e w' => e = .returned (.tuple #[.int .i64 (cmpV ka ba ia ta kb bb ib tb).1, .int .i64 (cmpV ka ba ia ta kb bb ib tb).2]) ∧ Below w.heap.size w w' := by
  go_enter Try.func8, Try.ntmps8
  go_wp2_with (first
    | (go_at_call 25; refine (order_any _ _ _).mono ?_; rintro e w' ⟨rfl, rfl⟩)
    | (go_at_call 24; refine (isString_any _ _ _ _ _ _ _ _ _ _ _).mono ?_; rintro e w' ⟨rfl, hb⟩; obtain ⟨hbc, -⟩ := bcell hb; have hz := hb.size; (try simp only [World.size_alloc] at hbc); (try simp only [World.size_alloc] at hz); have hb0 := (fun o => hbc w.heap.size o (by omega)); have hb1 := (fun o => hbc (w.heap.size + 1) o (by omega)); clear hbc; (first | have HA := Lib.hid (HA.out.trans (hb.mono HA.out.size)) | have HA := Lib.hid ((((Below.refl w.heap.size w).alloc (Nat.le_refl _) _).alloc (by simp) _).trans (hb.mono (by simp; omega)))); clear hb)
    | (go_at_call 23; refine (Try.strings_Compare _ _ _).mono ?_; rintro e w' ⟨rfl, rfl⟩))
  all_goals go_ret2
  all_goals refine ⟨ret_pair ?_, ?_⟩
  all_goals first
    | exact ((Below.refl _ _).alloc (Nat.le_refl _) _).alloc (by simp) _
    | exact HA.out
    | skip
  all_goals go_light
  all_goals (try rw [Prod.mk.eta])
  all_goals (try simp only [beq_iff_eq, beq_eq_false_iff_ne, ne_eq, bne_iff_ne, bne_eq_false_iff_eq] at *)
  all_goals unfold cmpV ordN
  all_goals (repeat' split) <;> first | rfl | (exfalso; omega) | (exfalso; simp_all; done) | (simp_all; done)

end Go.Proofs.Ytbkgkmmjlihpeaa
