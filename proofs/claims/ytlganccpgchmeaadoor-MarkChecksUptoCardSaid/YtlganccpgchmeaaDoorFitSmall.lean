/-
  Inlines that can be printed: the small functions of mark and mastref1.
-/
import Derived.Test.YtlganccpgchmeaaDoorFitFence
import Derived.Test.YtlganccpgchmeaaDoorAnyQ
namespace Go.Proofs.YtlganccpgchmeaaDoor
open Go.RowKit Go.Deep

theorem kind_class (k : Int) : (k = 11 ∧ brk k = false ∧ star k = false) ∨ (k ≠ 11 ∧ brk k = true ∧ star k = false) ∨ (k ≠ 11 ∧ brk k = false ∧ star k = true) ∨ (k ≠ 11 ∧ brk k = false ∧ star k = false) := by
  simp only [brk, star, Bool.or_eq_true, Bool.or_eq_false_iff, beq_iff_eq, beq_eq_false_iff_ne]
  omega
set_option maxHeartbeats 1000000 in
theorem isBreak_q (k lv : Int) (x d t : ByteArray) (A : Option Addr) (n c : Nat) (v : Bool) (w : World) (h : brk k = v) : Calls Tryd.prog 81 #[.agg #[.int .i64 k, .int .i64 lv, .string x, .string d, .string t, .slice A n c]] w fun e w' => e = .returned (.bool v) ∧ Below w.heap.size w w' := by
  subst h
  have HB0 := Lib.hid ((Below.refl w.heap.size w).alloc (Nat.le_refl _) (.cells #[.int .i64 k, .int .i64 lv, .string x, .string d, .string t, .slice A n c] 31))
  by_cases h0 : k = 12
  · subst h0
    go_enter Tryd.func81, Tryd.ntmps81
    go_wp2_with fail
    go_ret
    exact ⟨rfl, HB0.out⟩
  by_cases h1 : k = 13
  · subst h1
    go_enter Tryd.func81, Tryd.ntmps81
    go_wp2_with fail
    go_ret
    exact ⟨rfl, HB0.out⟩
  have t0 : (k == 12) = false := by simp; omega
  have t1 : (k == 13) = false := by simp; omega
  have HV := Lib.hid (show brk k = false by simp [brk, t0, t1])
  clear h0 h1
  go_enter Tryd.func81, Tryd.ntmps81
  go_wp2_with fail
  go_ret
  exact ⟨ret_bool HV.out.symm, HB0.out⟩
set_option maxHeartbeats 1000000 in
theorem isStar_q (k lv : Int) (x d t : ByteArray) (A : Option Addr) (n c : Nat) (v : Bool) (w : World) (h : star k = v) : Calls Tryd.prog 123 #[.agg #[.int .i64 k, .int .i64 lv, .string x, .string d, .string t, .slice A n c]] w fun e w' => e = .returned (.bool v) ∧ Below w.heap.size w w' := by
  subst h
  have HB0 := Lib.hid ((Below.refl w.heap.size w).alloc (Nat.le_refl _) (.cells #[.int .i64 k, .int .i64 lv, .string x, .string d, .string t, .slice A n c] 31))
  by_cases h0 : k = 14
  · subst h0
    go_enter Tryd.func123, Tryd.ntmps123
    go_wp2_with fail
    go_ret
    exact ⟨rfl, HB0.out⟩
  by_cases h1 : k = 15
  · subst h1
    go_enter Tryd.func123, Tryd.ntmps123
    go_wp2_with fail
    go_ret
    exact ⟨rfl, HB0.out⟩
  have t0 : (k == 14) = false := by simp; omega
  have t1 : (k == 15) = false := by simp; omega
  have HV := Lib.hid (show star k = false by simp [star, t0, t1])
  clear h0 h1
  go_enter Tryd.func123, Tryd.ntmps123
  go_wp2_with fail
  go_ret
  exact ⟨ret_bool HV.out.symm, HB0.out⟩
set_option maxHeartbeats 1000000 in
theorem ended_r (k : Int) (v : Bool) (w : World) (h : brk k = v) : Calls Tryd.prog 85 #[.int .i64 k] w fun e w' => e = .returned (.bool v) ∧ w' = w := by
  subst h
  by_cases h0 : k = 12
  · subst h0
    go_enter Tryd.func85, Tryd.ntmps85
    go_wp2_with fail
    go_ret
    exact ⟨rfl, rfl⟩
  by_cases h1 : k = 13
  · subst h1
    go_enter Tryd.func85, Tryd.ntmps85
    go_wp2_with fail
    go_ret
    exact ⟨rfl, rfl⟩
  have t0 : (k == 12) = false := by simp; omega
  have t1 : (k == 13) = false := by simp; omega
  have HV := Lib.hid (show brk k = false by simp [brk, t0, t1])
  clear h0 h1
  go_enter Tryd.func85, Tryd.ntmps85
  go_wp2_with fail
  go_ret
  exact ⟨ret_bool HV.out.symm, rfl⟩
set_option maxHeartbeats 1000000 in
theorem starred_r (k : Int) (v : Bool) (w : World) (h : star k = v) : Calls Tryd.prog 86 #[.int .i64 k] w fun e w' => e = .returned (.bool v) ∧ w' = w := by
  subst h
  by_cases h0 : k = 14
  · subst h0
    go_enter Tryd.func86, Tryd.ntmps86
    go_wp2_with fail
    go_ret
    exact ⟨rfl, rfl⟩
  by_cases h1 : k = 15
  · subst h1
    go_enter Tryd.func86, Tryd.ntmps86
    go_wp2_with fail
    go_ret
    exact ⟨rfl, rfl⟩
  have t0 : (k == 14) = false := by simp; omega
  have t1 : (k == 15) = false := by simp; omega
  have HV := Lib.hid (show star k = false by simp [star, t0, t1])
  clear h0 h1
  go_enter Tryd.func86, Tryd.ntmps86
  go_wp2_with fail
  go_ret
  exact ⟨ret_bool HV.out.symm, rfl⟩
/-- whether two inlines can stand side by side, over kinds and texts -/
def pairK (k1 k2 : Int) (x1 x2 : ByteArray) : Bool :=
  if (k1 == 11 && k2 == 11) || (brk k1 && brk k2) || (star k1 && star k2) then false
  else if k1 == 11 && brk k2 then !ltB x1.data.toList
  else if brk k1 && k2 == 11 then !hdB x2.data.toList else true
theorem pairK_pairB (a b : Node) : pairB a b = pairK a.kind b.kind a.text b.text := rfl

/-- both boxes of neighbors, kept -/
structure Two (n1 n2 : Nat) (c1 c2 : Array Value) (w0 w : World) : Prop where
  a : CB w n1 31 c1
  b : CB w n2 31 c2
  bel : Below w0.heap.size w0 w
theorem Two.below {n1 n2 : Nat} {c1 c2 : Array Value} {w0 w w' : World} (h : Two n1 n2 c1 c2 w0 w) (hb : Below w.heap.size w w') : Two n1 n2 c1 c2 w0 w' := ⟨h.a.below hb, h.b.below hb, h.bel.trans (hb.mono h.bel.size)⟩
set_option maxRecDepth 100000 in
set_option maxHeartbeats 16000000 in
theorem neighbors_q (k1 l1 k2 l2 : Int) (x1 d1 t1 x2 d2 t2 : ByteArray) (A1 A2 : Option Addr) (n1 c1 n2 c2 : Nat) (v : Bool) (w : World) (hv : pairK k1 k2 x1 x2 = v) (hs1 : x1.size ≤ 1073741824) (hs2 : x2.size ≤ 1073741824) : Calls Tryd.prog 104 #[.agg #[.int .i64 k1, .int .i64 l1, .string x1, .string d1, .string t1, .slice A1 n1 c1], .agg #[.int .i64 k2, .int .i64 l2, .string x2, .string d2, .string t2, .slice A2 n2 c2]] w fun e w' => e = .returned (.bool v) ∧ Below w.heap.size w w' := by
  have HT := Lib.hid (show Two w.heap.size (w.heap.size + 1) #[.int .i64 k1, .int .i64 l1, .string x1, .string d1, .string t1, .slice A1 n1 c1] #[.int .i64 k2, .int .i64 l2, .string x2, .string d2, .string t2, .slice A2 n2 c2] w ((w.alloc (.cells #[.int .i64 k1, .int .i64 l1, .string x1, .string d1, .string t1, .slice A1 n1 c1] 31)).alloc (.cells #[.int .i64 k2, .int .i64 l2, .string x2, .string d2, .string t2, .slice A2 n2 c2] 31)) from
    ⟨(CB.new w #[.int .i64 k1, .int .i64 l1, .string x1, .string d1, .string t1, .slice A1 n1 c1] 31).alloc _, by have := CB.new (w.alloc (.cells #[.int .i64 k1, .int .i64 l1, .string x1, .string d1, .string t1, .slice A1 n1 c1] 31)) #[.int .i64 k2, .int .i64 l2, .string x2, .string d2, .string t2, .slice A2 n2 c2] 31; rwa [World.size_alloc] at this, ((Below.refl _ _).alloc (Nat.le_refl _) _).alloc (by simp) _⟩)
  obtain ⟨a1, ha1⟩ : ∃ b, (k1 == 11) = b := ⟨_, rfl⟩
  obtain ⟨a2, ha2⟩ : ∃ b, (k2 == 11) = b := ⟨_, rfl⟩
  obtain ⟨b1, hb1⟩ : ∃ b, brk k1 = b := ⟨_, rfl⟩
  obtain ⟨b2, hb2⟩ : ∃ b, brk k2 = b := ⟨_, rfl⟩
  obtain ⟨s1, hs1'⟩ : ∃ b, star k1 = b := ⟨_, rfl⟩
  obtain ⟨s2, hs2'⟩ : ∃ b, star k2 = b := ⟨_, rfl⟩
  have hex1 : (a1, b1, s1) = (true, false, false) ∨ (a1, b1, s1) = (false, true, false) ∨ (a1, b1, s1) = (false, false, true) ∨ (a1, b1, s1) = (false, false, false) := by
    rw [← ha1, ← hb1, ← hs1']
    rcases kind_class k1 with ⟨h, h2, h3⟩ | ⟨h, h2, h3⟩ | ⟨h, h2, h3⟩ | ⟨h, h2, h3⟩ <;> simp [h, h2, h3]
    all_goals (subst h; simp_all)
  have hex2 : (a2, b2, s2) = (true, false, false) ∨ (a2, b2, s2) = (false, true, false) ∨ (a2, b2, s2) = (false, false, true) ∨ (a2, b2, s2) = (false, false, false) := by
    rw [← ha2, ← hb2, ← hs2']
    rcases kind_class k2 with ⟨h, h2, h3⟩ | ⟨h, h2, h3⟩ | ⟨h, h2, h3⟩ | ⟨h, h2, h3⟩ <;> simp [h, h2, h3]
    all_goals (subst h; simp_all)
  have HV := Lib.hid (show (if (a1 && a2) || (b1 && b2) || (s1 && s2) then false else if a1 && b2 then !ltB x1.data.toList else if b1 && a2 then !hdB x2.data.toList else true) = v by rw [← hv, ← ha1, ← ha2, ← hb1, ← hb2, ← hs1', ← hs2']; rfl)
  have HK1 := Lib.hid hb1
  have HK2 := Lib.hid hb2
  have HS1 := Lib.hid hs1'
  have HS2 := Lib.hid hs2'
  clear hv hb1 hb2 hs1' hs2'
  rcases hex1 with h | h | h | h <;> (simp only [Prod.mk.injEq] at h; obtain ⟨rfl, rfl, rfl⟩ := h) <;> (rcases hex2 with h | h | h | h <;> (simp only [Prod.mk.injEq] at h; obtain ⟨rfl, rfl, rfl⟩ := h))
  · have hvf : v = false := HV.out.symm
    subst hvf
    clear HV
    go_enter Tryd.func104, Tryd.ntmps104
    go_wp2_with fail
    have p0 := HT.out.a.c 0
    have p1 := HT.out.a.c 1
    have p2 := HT.out.a.c 2
    have p3 := HT.out.a.c 3
    have p4 := HT.out.a.c 4
    have p5 := HT.out.a.c 5
    have q0 := HT.out.b.c 0
    have q1 := HT.out.b.c 1
    have q2 := HT.out.b.c 2
    have q3 := HT.out.b.c 3
    have q4 := HT.out.b.c 4
    have q5 := HT.out.b.c 5
    simp only [List.getElem?_toArray, List.getElem?_cons_zero, List.getElem?_cons_succ] at p0 p1 p2 p3 p4 p5 q0 q1 q2 q3 q4 q5
    go_wp2_with (first
      | (go_at_call_of 81 k1; go_must (refine (isBreak_q k1 _ _ _ _ _ _ _ _ _ HK1.out).mono ?_); rintro e w3 ⟨rfl, hb⟩; have HT := Lib.hid (HT.out.below hb); clear hb; have p0 := HT.out.a.c 0; have p1 := HT.out.a.c 1; have p2 := HT.out.a.c 2; have p3 := HT.out.a.c 3; have p4 := HT.out.a.c 4; have p5 := HT.out.a.c 5; have q0 := HT.out.b.c 0; have q1 := HT.out.b.c 1; have q2 := HT.out.b.c 2; have q3 := HT.out.b.c 3; have q4 := HT.out.b.c 4; have q5 := HT.out.b.c 5; simp only [List.getElem?_toArray, List.getElem?_cons_zero, List.getElem?_cons_succ] at p0 p1 p2 p3 p4 p5 q0 q1 q2 q3 q4 q5)
      | (go_at_call_of 81 k2; go_must (refine (isBreak_q k2 _ _ _ _ _ _ _ _ _ HK2.out).mono ?_); rintro e w3 ⟨rfl, hb⟩; have HT := Lib.hid (HT.out.below hb); clear hb; have p0 := HT.out.a.c 0; have p1 := HT.out.a.c 1; have p2 := HT.out.a.c 2; have p3 := HT.out.a.c 3; have p4 := HT.out.a.c 4; have p5 := HT.out.a.c 5; have q0 := HT.out.b.c 0; have q1 := HT.out.b.c 1; have q2 := HT.out.b.c 2; have q3 := HT.out.b.c 3; have q4 := HT.out.b.c 4; have q5 := HT.out.b.c 5; simp only [List.getElem?_toArray, List.getElem?_cons_zero, List.getElem?_cons_succ] at p0 p1 p2 p3 p4 p5 q0 q1 q2 q3 q4 q5)
      | (go_at_call_of 123 k1; go_must (refine (isStar_q k1 _ _ _ _ _ _ _ _ _ HS1.out).mono ?_); rintro e w3 ⟨rfl, hb⟩; have HT := Lib.hid (HT.out.below hb); clear hb; have p0 := HT.out.a.c 0; have p1 := HT.out.a.c 1; have p2 := HT.out.a.c 2; have p3 := HT.out.a.c 3; have p4 := HT.out.a.c 4; have p5 := HT.out.a.c 5; have q0 := HT.out.b.c 0; have q1 := HT.out.b.c 1; have q2 := HT.out.b.c 2; have q3 := HT.out.b.c 3; have q4 := HT.out.b.c 4; have q5 := HT.out.b.c 5; simp only [List.getElem?_toArray, List.getElem?_cons_zero, List.getElem?_cons_succ] at p0 p1 p2 p3 p4 p5 q0 q1 q2 q3 q4 q5)
      | (go_at_call_of 123 k2; go_must (refine (isStar_q k2 _ _ _ _ _ _ _ _ _ HS2.out).mono ?_); rintro e w3 ⟨rfl, hb⟩; have HT := Lib.hid (HT.out.below hb); clear hb; have p0 := HT.out.a.c 0; have p1 := HT.out.a.c 1; have p2 := HT.out.a.c 2; have p3 := HT.out.a.c 3; have p4 := HT.out.a.c 4; have p5 := HT.out.a.c 5; have q0 := HT.out.b.c 0; have q1 := HT.out.b.c 1; have q2 := HT.out.b.c 2; have q3 := HT.out.b.c 3; have q4 := HT.out.b.c 4; have q5 := HT.out.b.c 5; simp only [List.getElem?_toArray, List.getElem?_cons_zero, List.getElem?_cons_succ] at p0 p1 p2 p3 p4 p5 q0 q1 q2 q3 q4 q5)
      | (go_at_call 82; go_must (refine (isBlank_q _ _ _ HBl.out).mono ?_); rintro e w3 ⟨rfl, hw3⟩; obtain rfl := hw3.symm))
    go_ret
    exact ⟨rfl, HT.out.bel⟩
  · by_cases h0 : 0 < x1.size
    · obtain ⟨f1, f2, f3, f4⟩ := nonempty_forms h0
      obtain ⟨m, hm⟩ : ∃ m, x1.size = m + 1 := ⟨x1.size - 1, by omega⟩
      have hm2 : m < x1.size := by omega
      obtain ⟨d, hd, hl⟩ := last_form hm hm2
      have HVV := Lib.hid (show (!blkB d) = v by have h9 := HV.out; rw [lt_snoc hl] at h9; simpa using h9)
      cases hbl : blkB d with
      | true =>
        have HBl := Lib.hid hbl
        have hvf : v = false := by rw [← HVV.out, hbl]; rfl
        subst hvf
        clear hl hbl HV
        go_enter Tryd.func104, Tryd.ntmps104
        go_wp2_with fail
        have p0 := HT.out.a.c 0
        have p1 := HT.out.a.c 1
        have p2 := HT.out.a.c 2
        have p3 := HT.out.a.c 3
        have p4 := HT.out.a.c 4
        have p5 := HT.out.a.c 5
        have q0 := HT.out.b.c 0
        have q1 := HT.out.b.c 1
        have q2 := HT.out.b.c 2
        have q3 := HT.out.b.c 3
        have q4 := HT.out.b.c 4
        have q5 := HT.out.b.c 5
        simp only [List.getElem?_toArray, List.getElem?_cons_zero, List.getElem?_cons_succ] at p0 p1 p2 p3 p4 p5 q0 q1 q2 q3 q4 q5
        go_wp2_with (first
          | (go_at_call_of 81 k1; go_must (refine (isBreak_q k1 _ _ _ _ _ _ _ _ _ HK1.out).mono ?_); rintro e w3 ⟨rfl, hb⟩; have HT := Lib.hid (HT.out.below hb); clear hb; have p0 := HT.out.a.c 0; have p1 := HT.out.a.c 1; have p2 := HT.out.a.c 2; have p3 := HT.out.a.c 3; have p4 := HT.out.a.c 4; have p5 := HT.out.a.c 5; have q0 := HT.out.b.c 0; have q1 := HT.out.b.c 1; have q2 := HT.out.b.c 2; have q3 := HT.out.b.c 3; have q4 := HT.out.b.c 4; have q5 := HT.out.b.c 5; simp only [List.getElem?_toArray, List.getElem?_cons_zero, List.getElem?_cons_succ] at p0 p1 p2 p3 p4 p5 q0 q1 q2 q3 q4 q5)
          | (go_at_call_of 81 k2; go_must (refine (isBreak_q k2 _ _ _ _ _ _ _ _ _ HK2.out).mono ?_); rintro e w3 ⟨rfl, hb⟩; have HT := Lib.hid (HT.out.below hb); clear hb; have p0 := HT.out.a.c 0; have p1 := HT.out.a.c 1; have p2 := HT.out.a.c 2; have p3 := HT.out.a.c 3; have p4 := HT.out.a.c 4; have p5 := HT.out.a.c 5; have q0 := HT.out.b.c 0; have q1 := HT.out.b.c 1; have q2 := HT.out.b.c 2; have q3 := HT.out.b.c 3; have q4 := HT.out.b.c 4; have q5 := HT.out.b.c 5; simp only [List.getElem?_toArray, List.getElem?_cons_zero, List.getElem?_cons_succ] at p0 p1 p2 p3 p4 p5 q0 q1 q2 q3 q4 q5)
          | (go_at_call_of 123 k1; go_must (refine (isStar_q k1 _ _ _ _ _ _ _ _ _ HS1.out).mono ?_); rintro e w3 ⟨rfl, hb⟩; have HT := Lib.hid (HT.out.below hb); clear hb; have p0 := HT.out.a.c 0; have p1 := HT.out.a.c 1; have p2 := HT.out.a.c 2; have p3 := HT.out.a.c 3; have p4 := HT.out.a.c 4; have p5 := HT.out.a.c 5; have q0 := HT.out.b.c 0; have q1 := HT.out.b.c 1; have q2 := HT.out.b.c 2; have q3 := HT.out.b.c 3; have q4 := HT.out.b.c 4; have q5 := HT.out.b.c 5; simp only [List.getElem?_toArray, List.getElem?_cons_zero, List.getElem?_cons_succ] at p0 p1 p2 p3 p4 p5 q0 q1 q2 q3 q4 q5)
          | (go_at_call_of 123 k2; go_must (refine (isStar_q k2 _ _ _ _ _ _ _ _ _ HS2.out).mono ?_); rintro e w3 ⟨rfl, hb⟩; have HT := Lib.hid (HT.out.below hb); clear hb; have p0 := HT.out.a.c 0; have p1 := HT.out.a.c 1; have p2 := HT.out.a.c 2; have p3 := HT.out.a.c 3; have p4 := HT.out.a.c 4; have p5 := HT.out.a.c 5; have q0 := HT.out.b.c 0; have q1 := HT.out.b.c 1; have q2 := HT.out.b.c 2; have q3 := HT.out.b.c 3; have q4 := HT.out.b.c 4; have q5 := HT.out.b.c 5; simp only [List.getElem?_toArray, List.getElem?_cons_zero, List.getElem?_cons_succ] at p0 p1 p2 p3 p4 p5 q0 q1 q2 q3 q4 q5)
          | (go_at_call 82; go_must (refine (isBlank_q _ _ _ HBl.out).mono ?_); rintro e w3 ⟨rfl, hw3⟩; obtain rfl := hw3.symm))
        go_ret
        exact ⟨rfl, HT.out.bel⟩
      | false =>
        have HBl := Lib.hid hbl
        have hvf : v = true := by rw [← HVV.out, hbl]; rfl
        subst hvf
        clear hl hbl HV
        go_enter Tryd.func104, Tryd.ntmps104
        go_wp2_with fail
        have p0 := HT.out.a.c 0
        have p1 := HT.out.a.c 1
        have p2 := HT.out.a.c 2
        have p3 := HT.out.a.c 3
        have p4 := HT.out.a.c 4
        have p5 := HT.out.a.c 5
        have q0 := HT.out.b.c 0
        have q1 := HT.out.b.c 1
        have q2 := HT.out.b.c 2
        have q3 := HT.out.b.c 3
        have q4 := HT.out.b.c 4
        have q5 := HT.out.b.c 5
        simp only [List.getElem?_toArray, List.getElem?_cons_zero, List.getElem?_cons_succ] at p0 p1 p2 p3 p4 p5 q0 q1 q2 q3 q4 q5
        go_wp2_with (first
          | (go_at_call_of 81 k1; go_must (refine (isBreak_q k1 _ _ _ _ _ _ _ _ _ HK1.out).mono ?_); rintro e w3 ⟨rfl, hb⟩; have HT := Lib.hid (HT.out.below hb); clear hb; have p0 := HT.out.a.c 0; have p1 := HT.out.a.c 1; have p2 := HT.out.a.c 2; have p3 := HT.out.a.c 3; have p4 := HT.out.a.c 4; have p5 := HT.out.a.c 5; have q0 := HT.out.b.c 0; have q1 := HT.out.b.c 1; have q2 := HT.out.b.c 2; have q3 := HT.out.b.c 3; have q4 := HT.out.b.c 4; have q5 := HT.out.b.c 5; simp only [List.getElem?_toArray, List.getElem?_cons_zero, List.getElem?_cons_succ] at p0 p1 p2 p3 p4 p5 q0 q1 q2 q3 q4 q5)
          | (go_at_call_of 81 k2; go_must (refine (isBreak_q k2 _ _ _ _ _ _ _ _ _ HK2.out).mono ?_); rintro e w3 ⟨rfl, hb⟩; have HT := Lib.hid (HT.out.below hb); clear hb; have p0 := HT.out.a.c 0; have p1 := HT.out.a.c 1; have p2 := HT.out.a.c 2; have p3 := HT.out.a.c 3; have p4 := HT.out.a.c 4; have p5 := HT.out.a.c 5; have q0 := HT.out.b.c 0; have q1 := HT.out.b.c 1; have q2 := HT.out.b.c 2; have q3 := HT.out.b.c 3; have q4 := HT.out.b.c 4; have q5 := HT.out.b.c 5; simp only [List.getElem?_toArray, List.getElem?_cons_zero, List.getElem?_cons_succ] at p0 p1 p2 p3 p4 p5 q0 q1 q2 q3 q4 q5)
          | (go_at_call_of 123 k1; go_must (refine (isStar_q k1 _ _ _ _ _ _ _ _ _ HS1.out).mono ?_); rintro e w3 ⟨rfl, hb⟩; have HT := Lib.hid (HT.out.below hb); clear hb; have p0 := HT.out.a.c 0; have p1 := HT.out.a.c 1; have p2 := HT.out.a.c 2; have p3 := HT.out.a.c 3; have p4 := HT.out.a.c 4; have p5 := HT.out.a.c 5; have q0 := HT.out.b.c 0; have q1 := HT.out.b.c 1; have q2 := HT.out.b.c 2; have q3 := HT.out.b.c 3; have q4 := HT.out.b.c 4; have q5 := HT.out.b.c 5; simp only [List.getElem?_toArray, List.getElem?_cons_zero, List.getElem?_cons_succ] at p0 p1 p2 p3 p4 p5 q0 q1 q2 q3 q4 q5)
          | (go_at_call_of 123 k2; go_must (refine (isStar_q k2 _ _ _ _ _ _ _ _ _ HS2.out).mono ?_); rintro e w3 ⟨rfl, hb⟩; have HT := Lib.hid (HT.out.below hb); clear hb; have p0 := HT.out.a.c 0; have p1 := HT.out.a.c 1; have p2 := HT.out.a.c 2; have p3 := HT.out.a.c 3; have p4 := HT.out.a.c 4; have p5 := HT.out.a.c 5; have q0 := HT.out.b.c 0; have q1 := HT.out.b.c 1; have q2 := HT.out.b.c 2; have q3 := HT.out.b.c 3; have q4 := HT.out.b.c 4; have q5 := HT.out.b.c 5; simp only [List.getElem?_toArray, List.getElem?_cons_zero, List.getElem?_cons_succ] at p0 p1 p2 p3 p4 p5 q0 q1 q2 q3 q4 q5)
          | (go_at_call 82; go_must (refine (isBlank_q _ _ _ HBl.out).mono ?_); rintro e w3 ⟨rfl, hw3⟩; obtain rfl := hw3.symm))
        go_ret
        exact ⟨rfl, HT.out.bel⟩
    · obtain rfl := empty_lit h0
      have hvf : v = true := HV.out.symm
      subst hvf
      clear HV h0
      go_enter Tryd.func104, Tryd.ntmps104
      go_wp2_with fail
      have p0 := HT.out.a.c 0
      have p1 := HT.out.a.c 1
      have p2 := HT.out.a.c 2
      have p3 := HT.out.a.c 3
      have p4 := HT.out.a.c 4
      have p5 := HT.out.a.c 5
      have q0 := HT.out.b.c 0
      have q1 := HT.out.b.c 1
      have q2 := HT.out.b.c 2
      have q3 := HT.out.b.c 3
      have q4 := HT.out.b.c 4
      have q5 := HT.out.b.c 5
      simp only [List.getElem?_toArray, List.getElem?_cons_zero, List.getElem?_cons_succ] at p0 p1 p2 p3 p4 p5 q0 q1 q2 q3 q4 q5
      go_wp2_with (first
        | (go_at_call_of 81 k1; go_must (refine (isBreak_q k1 _ _ _ _ _ _ _ _ _ HK1.out).mono ?_); rintro e w3 ⟨rfl, hb⟩; have HT := Lib.hid (HT.out.below hb); clear hb; have p0 := HT.out.a.c 0; have p1 := HT.out.a.c 1; have p2 := HT.out.a.c 2; have p3 := HT.out.a.c 3; have p4 := HT.out.a.c 4; have p5 := HT.out.a.c 5; have q0 := HT.out.b.c 0; have q1 := HT.out.b.c 1; have q2 := HT.out.b.c 2; have q3 := HT.out.b.c 3; have q4 := HT.out.b.c 4; have q5 := HT.out.b.c 5; simp only [List.getElem?_toArray, List.getElem?_cons_zero, List.getElem?_cons_succ] at p0 p1 p2 p3 p4 p5 q0 q1 q2 q3 q4 q5)
        | (go_at_call_of 81 k2; go_must (refine (isBreak_q k2 _ _ _ _ _ _ _ _ _ HK2.out).mono ?_); rintro e w3 ⟨rfl, hb⟩; have HT := Lib.hid (HT.out.below hb); clear hb; have p0 := HT.out.a.c 0; have p1 := HT.out.a.c 1; have p2 := HT.out.a.c 2; have p3 := HT.out.a.c 3; have p4 := HT.out.a.c 4; have p5 := HT.out.a.c 5; have q0 := HT.out.b.c 0; have q1 := HT.out.b.c 1; have q2 := HT.out.b.c 2; have q3 := HT.out.b.c 3; have q4 := HT.out.b.c 4; have q5 := HT.out.b.c 5; simp only [List.getElem?_toArray, List.getElem?_cons_zero, List.getElem?_cons_succ] at p0 p1 p2 p3 p4 p5 q0 q1 q2 q3 q4 q5)
        | (go_at_call_of 123 k1; go_must (refine (isStar_q k1 _ _ _ _ _ _ _ _ _ HS1.out).mono ?_); rintro e w3 ⟨rfl, hb⟩; have HT := Lib.hid (HT.out.below hb); clear hb; have p0 := HT.out.a.c 0; have p1 := HT.out.a.c 1; have p2 := HT.out.a.c 2; have p3 := HT.out.a.c 3; have p4 := HT.out.a.c 4; have p5 := HT.out.a.c 5; have q0 := HT.out.b.c 0; have q1 := HT.out.b.c 1; have q2 := HT.out.b.c 2; have q3 := HT.out.b.c 3; have q4 := HT.out.b.c 4; have q5 := HT.out.b.c 5; simp only [List.getElem?_toArray, List.getElem?_cons_zero, List.getElem?_cons_succ] at p0 p1 p2 p3 p4 p5 q0 q1 q2 q3 q4 q5)
        | (go_at_call_of 123 k2; go_must (refine (isStar_q k2 _ _ _ _ _ _ _ _ _ HS2.out).mono ?_); rintro e w3 ⟨rfl, hb⟩; have HT := Lib.hid (HT.out.below hb); clear hb; have p0 := HT.out.a.c 0; have p1 := HT.out.a.c 1; have p2 := HT.out.a.c 2; have p3 := HT.out.a.c 3; have p4 := HT.out.a.c 4; have p5 := HT.out.a.c 5; have q0 := HT.out.b.c 0; have q1 := HT.out.b.c 1; have q2 := HT.out.b.c 2; have q3 := HT.out.b.c 3; have q4 := HT.out.b.c 4; have q5 := HT.out.b.c 5; simp only [List.getElem?_toArray, List.getElem?_cons_zero, List.getElem?_cons_succ] at p0 p1 p2 p3 p4 p5 q0 q1 q2 q3 q4 q5)
        | (go_at_call 82; go_must (refine (isBlank_q _ _ _ HBl.out).mono ?_); rintro e w3 ⟨rfl, hw3⟩; obtain rfl := hw3.symm))
      go_ret
      exact ⟨rfl, HT.out.bel⟩
  · have hvf : v = true := HV.out.symm
    subst hvf
    clear HV
    go_enter Tryd.func104, Tryd.ntmps104
    go_wp2_with fail
    have p0 := HT.out.a.c 0
    have p1 := HT.out.a.c 1
    have p2 := HT.out.a.c 2
    have p3 := HT.out.a.c 3
    have p4 := HT.out.a.c 4
    have p5 := HT.out.a.c 5
    have q0 := HT.out.b.c 0
    have q1 := HT.out.b.c 1
    have q2 := HT.out.b.c 2
    have q3 := HT.out.b.c 3
    have q4 := HT.out.b.c 4
    have q5 := HT.out.b.c 5
    simp only [List.getElem?_toArray, List.getElem?_cons_zero, List.getElem?_cons_succ] at p0 p1 p2 p3 p4 p5 q0 q1 q2 q3 q4 q5
    go_wp2_with (first
      | (go_at_call_of 81 k1; go_must (refine (isBreak_q k1 _ _ _ _ _ _ _ _ _ HK1.out).mono ?_); rintro e w3 ⟨rfl, hb⟩; have HT := Lib.hid (HT.out.below hb); clear hb; have p0 := HT.out.a.c 0; have p1 := HT.out.a.c 1; have p2 := HT.out.a.c 2; have p3 := HT.out.a.c 3; have p4 := HT.out.a.c 4; have p5 := HT.out.a.c 5; have q0 := HT.out.b.c 0; have q1 := HT.out.b.c 1; have q2 := HT.out.b.c 2; have q3 := HT.out.b.c 3; have q4 := HT.out.b.c 4; have q5 := HT.out.b.c 5; simp only [List.getElem?_toArray, List.getElem?_cons_zero, List.getElem?_cons_succ] at p0 p1 p2 p3 p4 p5 q0 q1 q2 q3 q4 q5)
      | (go_at_call_of 81 k2; go_must (refine (isBreak_q k2 _ _ _ _ _ _ _ _ _ HK2.out).mono ?_); rintro e w3 ⟨rfl, hb⟩; have HT := Lib.hid (HT.out.below hb); clear hb; have p0 := HT.out.a.c 0; have p1 := HT.out.a.c 1; have p2 := HT.out.a.c 2; have p3 := HT.out.a.c 3; have p4 := HT.out.a.c 4; have p5 := HT.out.a.c 5; have q0 := HT.out.b.c 0; have q1 := HT.out.b.c 1; have q2 := HT.out.b.c 2; have q3 := HT.out.b.c 3; have q4 := HT.out.b.c 4; have q5 := HT.out.b.c 5; simp only [List.getElem?_toArray, List.getElem?_cons_zero, List.getElem?_cons_succ] at p0 p1 p2 p3 p4 p5 q0 q1 q2 q3 q4 q5)
      | (go_at_call_of 123 k1; go_must (refine (isStar_q k1 _ _ _ _ _ _ _ _ _ HS1.out).mono ?_); rintro e w3 ⟨rfl, hb⟩; have HT := Lib.hid (HT.out.below hb); clear hb; have p0 := HT.out.a.c 0; have p1 := HT.out.a.c 1; have p2 := HT.out.a.c 2; have p3 := HT.out.a.c 3; have p4 := HT.out.a.c 4; have p5 := HT.out.a.c 5; have q0 := HT.out.b.c 0; have q1 := HT.out.b.c 1; have q2 := HT.out.b.c 2; have q3 := HT.out.b.c 3; have q4 := HT.out.b.c 4; have q5 := HT.out.b.c 5; simp only [List.getElem?_toArray, List.getElem?_cons_zero, List.getElem?_cons_succ] at p0 p1 p2 p3 p4 p5 q0 q1 q2 q3 q4 q5)
      | (go_at_call_of 123 k2; go_must (refine (isStar_q k2 _ _ _ _ _ _ _ _ _ HS2.out).mono ?_); rintro e w3 ⟨rfl, hb⟩; have HT := Lib.hid (HT.out.below hb); clear hb; have p0 := HT.out.a.c 0; have p1 := HT.out.a.c 1; have p2 := HT.out.a.c 2; have p3 := HT.out.a.c 3; have p4 := HT.out.a.c 4; have p5 := HT.out.a.c 5; have q0 := HT.out.b.c 0; have q1 := HT.out.b.c 1; have q2 := HT.out.b.c 2; have q3 := HT.out.b.c 3; have q4 := HT.out.b.c 4; have q5 := HT.out.b.c 5; simp only [List.getElem?_toArray, List.getElem?_cons_zero, List.getElem?_cons_succ] at p0 p1 p2 p3 p4 p5 q0 q1 q2 q3 q4 q5)
      | (go_at_call 82; go_must (refine (isBlank_q _ _ _ HBl.out).mono ?_); rintro e w3 ⟨rfl, hw3⟩; obtain rfl := hw3.symm))
    go_ret
    exact ⟨rfl, HT.out.bel⟩
  · have hvf : v = true := HV.out.symm
    subst hvf
    clear HV
    go_enter Tryd.func104, Tryd.ntmps104
    go_wp2_with fail
    have p0 := HT.out.a.c 0
    have p1 := HT.out.a.c 1
    have p2 := HT.out.a.c 2
    have p3 := HT.out.a.c 3
    have p4 := HT.out.a.c 4
    have p5 := HT.out.a.c 5
    have q0 := HT.out.b.c 0
    have q1 := HT.out.b.c 1
    have q2 := HT.out.b.c 2
    have q3 := HT.out.b.c 3
    have q4 := HT.out.b.c 4
    have q5 := HT.out.b.c 5
    simp only [List.getElem?_toArray, List.getElem?_cons_zero, List.getElem?_cons_succ] at p0 p1 p2 p3 p4 p5 q0 q1 q2 q3 q4 q5
    go_wp2_with (first
      | (go_at_call_of 81 k1; go_must (refine (isBreak_q k1 _ _ _ _ _ _ _ _ _ HK1.out).mono ?_); rintro e w3 ⟨rfl, hb⟩; have HT := Lib.hid (HT.out.below hb); clear hb; have p0 := HT.out.a.c 0; have p1 := HT.out.a.c 1; have p2 := HT.out.a.c 2; have p3 := HT.out.a.c 3; have p4 := HT.out.a.c 4; have p5 := HT.out.a.c 5; have q0 := HT.out.b.c 0; have q1 := HT.out.b.c 1; have q2 := HT.out.b.c 2; have q3 := HT.out.b.c 3; have q4 := HT.out.b.c 4; have q5 := HT.out.b.c 5; simp only [List.getElem?_toArray, List.getElem?_cons_zero, List.getElem?_cons_succ] at p0 p1 p2 p3 p4 p5 q0 q1 q2 q3 q4 q5)
      | (go_at_call_of 81 k2; go_must (refine (isBreak_q k2 _ _ _ _ _ _ _ _ _ HK2.out).mono ?_); rintro e w3 ⟨rfl, hb⟩; have HT := Lib.hid (HT.out.below hb); clear hb; have p0 := HT.out.a.c 0; have p1 := HT.out.a.c 1; have p2 := HT.out.a.c 2; have p3 := HT.out.a.c 3; have p4 := HT.out.a.c 4; have p5 := HT.out.a.c 5; have q0 := HT.out.b.c 0; have q1 := HT.out.b.c 1; have q2 := HT.out.b.c 2; have q3 := HT.out.b.c 3; have q4 := HT.out.b.c 4; have q5 := HT.out.b.c 5; simp only [List.getElem?_toArray, List.getElem?_cons_zero, List.getElem?_cons_succ] at p0 p1 p2 p3 p4 p5 q0 q1 q2 q3 q4 q5)
      | (go_at_call_of 123 k1; go_must (refine (isStar_q k1 _ _ _ _ _ _ _ _ _ HS1.out).mono ?_); rintro e w3 ⟨rfl, hb⟩; have HT := Lib.hid (HT.out.below hb); clear hb; have p0 := HT.out.a.c 0; have p1 := HT.out.a.c 1; have p2 := HT.out.a.c 2; have p3 := HT.out.a.c 3; have p4 := HT.out.a.c 4; have p5 := HT.out.a.c 5; have q0 := HT.out.b.c 0; have q1 := HT.out.b.c 1; have q2 := HT.out.b.c 2; have q3 := HT.out.b.c 3; have q4 := HT.out.b.c 4; have q5 := HT.out.b.c 5; simp only [List.getElem?_toArray, List.getElem?_cons_zero, List.getElem?_cons_succ] at p0 p1 p2 p3 p4 p5 q0 q1 q2 q3 q4 q5)
      | (go_at_call_of 123 k2; go_must (refine (isStar_q k2 _ _ _ _ _ _ _ _ _ HS2.out).mono ?_); rintro e w3 ⟨rfl, hb⟩; have HT := Lib.hid (HT.out.below hb); clear hb; have p0 := HT.out.a.c 0; have p1 := HT.out.a.c 1; have p2 := HT.out.a.c 2; have p3 := HT.out.a.c 3; have p4 := HT.out.a.c 4; have p5 := HT.out.a.c 5; have q0 := HT.out.b.c 0; have q1 := HT.out.b.c 1; have q2 := HT.out.b.c 2; have q3 := HT.out.b.c 3; have q4 := HT.out.b.c 4; have q5 := HT.out.b.c 5; simp only [List.getElem?_toArray, List.getElem?_cons_zero, List.getElem?_cons_succ] at p0 p1 p2 p3 p4 p5 q0 q1 q2 q3 q4 q5)
      | (go_at_call 82; go_must (refine (isBlank_q _ _ _ HBl.out).mono ?_); rintro e w3 ⟨rfl, hw3⟩; obtain rfl := hw3.symm))
    go_ret
    exact ⟨rfl, HT.out.bel⟩
  · by_cases h0 : 0 < x2.size
    · obtain ⟨f1, f2, f3, f4⟩ := nonempty_forms h0
      obtain ⟨d, hd, hl⟩ := first_form h0
      have HVV := Lib.hid (show (!blkB d) = v by have h9 := HV.out; rw [hd_cons hl] at h9; simpa using h9)
      cases hbl : blkB d with
      | true =>
        have HBl := Lib.hid hbl
        have hvf : v = false := by rw [← HVV.out, hbl]; rfl
        subst hvf
        clear hl hbl HV
        go_enter Tryd.func104, Tryd.ntmps104
        go_wp2_with fail
        have p0 := HT.out.a.c 0
        have p1 := HT.out.a.c 1
        have p2 := HT.out.a.c 2
        have p3 := HT.out.a.c 3
        have p4 := HT.out.a.c 4
        have p5 := HT.out.a.c 5
        have q0 := HT.out.b.c 0
        have q1 := HT.out.b.c 1
        have q2 := HT.out.b.c 2
        have q3 := HT.out.b.c 3
        have q4 := HT.out.b.c 4
        have q5 := HT.out.b.c 5
        simp only [List.getElem?_toArray, List.getElem?_cons_zero, List.getElem?_cons_succ] at p0 p1 p2 p3 p4 p5 q0 q1 q2 q3 q4 q5
        go_wp2_with (first
          | (go_at_call_of 81 k1; go_must (refine (isBreak_q k1 _ _ _ _ _ _ _ _ _ HK1.out).mono ?_); rintro e w3 ⟨rfl, hb⟩; have HT := Lib.hid (HT.out.below hb); clear hb; have p0 := HT.out.a.c 0; have p1 := HT.out.a.c 1; have p2 := HT.out.a.c 2; have p3 := HT.out.a.c 3; have p4 := HT.out.a.c 4; have p5 := HT.out.a.c 5; have q0 := HT.out.b.c 0; have q1 := HT.out.b.c 1; have q2 := HT.out.b.c 2; have q3 := HT.out.b.c 3; have q4 := HT.out.b.c 4; have q5 := HT.out.b.c 5; simp only [List.getElem?_toArray, List.getElem?_cons_zero, List.getElem?_cons_succ] at p0 p1 p2 p3 p4 p5 q0 q1 q2 q3 q4 q5)
          | (go_at_call_of 81 k2; go_must (refine (isBreak_q k2 _ _ _ _ _ _ _ _ _ HK2.out).mono ?_); rintro e w3 ⟨rfl, hb⟩; have HT := Lib.hid (HT.out.below hb); clear hb; have p0 := HT.out.a.c 0; have p1 := HT.out.a.c 1; have p2 := HT.out.a.c 2; have p3 := HT.out.a.c 3; have p4 := HT.out.a.c 4; have p5 := HT.out.a.c 5; have q0 := HT.out.b.c 0; have q1 := HT.out.b.c 1; have q2 := HT.out.b.c 2; have q3 := HT.out.b.c 3; have q4 := HT.out.b.c 4; have q5 := HT.out.b.c 5; simp only [List.getElem?_toArray, List.getElem?_cons_zero, List.getElem?_cons_succ] at p0 p1 p2 p3 p4 p5 q0 q1 q2 q3 q4 q5)
          | (go_at_call_of 123 k1; go_must (refine (isStar_q k1 _ _ _ _ _ _ _ _ _ HS1.out).mono ?_); rintro e w3 ⟨rfl, hb⟩; have HT := Lib.hid (HT.out.below hb); clear hb; have p0 := HT.out.a.c 0; have p1 := HT.out.a.c 1; have p2 := HT.out.a.c 2; have p3 := HT.out.a.c 3; have p4 := HT.out.a.c 4; have p5 := HT.out.a.c 5; have q0 := HT.out.b.c 0; have q1 := HT.out.b.c 1; have q2 := HT.out.b.c 2; have q3 := HT.out.b.c 3; have q4 := HT.out.b.c 4; have q5 := HT.out.b.c 5; simp only [List.getElem?_toArray, List.getElem?_cons_zero, List.getElem?_cons_succ] at p0 p1 p2 p3 p4 p5 q0 q1 q2 q3 q4 q5)
          | (go_at_call_of 123 k2; go_must (refine (isStar_q k2 _ _ _ _ _ _ _ _ _ HS2.out).mono ?_); rintro e w3 ⟨rfl, hb⟩; have HT := Lib.hid (HT.out.below hb); clear hb; have p0 := HT.out.a.c 0; have p1 := HT.out.a.c 1; have p2 := HT.out.a.c 2; have p3 := HT.out.a.c 3; have p4 := HT.out.a.c 4; have p5 := HT.out.a.c 5; have q0 := HT.out.b.c 0; have q1 := HT.out.b.c 1; have q2 := HT.out.b.c 2; have q3 := HT.out.b.c 3; have q4 := HT.out.b.c 4; have q5 := HT.out.b.c 5; simp only [List.getElem?_toArray, List.getElem?_cons_zero, List.getElem?_cons_succ] at p0 p1 p2 p3 p4 p5 q0 q1 q2 q3 q4 q5)
          | (go_at_call 82; go_must (refine (isBlank_q _ _ _ HBl.out).mono ?_); rintro e w3 ⟨rfl, hw3⟩; obtain rfl := hw3.symm))
        go_ret
        exact ⟨rfl, HT.out.bel⟩
      | false =>
        have HBl := Lib.hid hbl
        have hvf : v = true := by rw [← HVV.out, hbl]; rfl
        subst hvf
        clear hl hbl HV
        go_enter Tryd.func104, Tryd.ntmps104
        go_wp2_with fail
        have p0 := HT.out.a.c 0
        have p1 := HT.out.a.c 1
        have p2 := HT.out.a.c 2
        have p3 := HT.out.a.c 3
        have p4 := HT.out.a.c 4
        have p5 := HT.out.a.c 5
        have q0 := HT.out.b.c 0
        have q1 := HT.out.b.c 1
        have q2 := HT.out.b.c 2
        have q3 := HT.out.b.c 3
        have q4 := HT.out.b.c 4
        have q5 := HT.out.b.c 5
        simp only [List.getElem?_toArray, List.getElem?_cons_zero, List.getElem?_cons_succ] at p0 p1 p2 p3 p4 p5 q0 q1 q2 q3 q4 q5
        go_wp2_with (first
          | (go_at_call_of 81 k1; go_must (refine (isBreak_q k1 _ _ _ _ _ _ _ _ _ HK1.out).mono ?_); rintro e w3 ⟨rfl, hb⟩; have HT := Lib.hid (HT.out.below hb); clear hb; have p0 := HT.out.a.c 0; have p1 := HT.out.a.c 1; have p2 := HT.out.a.c 2; have p3 := HT.out.a.c 3; have p4 := HT.out.a.c 4; have p5 := HT.out.a.c 5; have q0 := HT.out.b.c 0; have q1 := HT.out.b.c 1; have q2 := HT.out.b.c 2; have q3 := HT.out.b.c 3; have q4 := HT.out.b.c 4; have q5 := HT.out.b.c 5; simp only [List.getElem?_toArray, List.getElem?_cons_zero, List.getElem?_cons_succ] at p0 p1 p2 p3 p4 p5 q0 q1 q2 q3 q4 q5)
          | (go_at_call_of 81 k2; go_must (refine (isBreak_q k2 _ _ _ _ _ _ _ _ _ HK2.out).mono ?_); rintro e w3 ⟨rfl, hb⟩; have HT := Lib.hid (HT.out.below hb); clear hb; have p0 := HT.out.a.c 0; have p1 := HT.out.a.c 1; have p2 := HT.out.a.c 2; have p3 := HT.out.a.c 3; have p4 := HT.out.a.c 4; have p5 := HT.out.a.c 5; have q0 := HT.out.b.c 0; have q1 := HT.out.b.c 1; have q2 := HT.out.b.c 2; have q3 := HT.out.b.c 3; have q4 := HT.out.b.c 4; have q5 := HT.out.b.c 5; simp only [List.getElem?_toArray, List.getElem?_cons_zero, List.getElem?_cons_succ] at p0 p1 p2 p3 p4 p5 q0 q1 q2 q3 q4 q5)
          | (go_at_call_of 123 k1; go_must (refine (isStar_q k1 _ _ _ _ _ _ _ _ _ HS1.out).mono ?_); rintro e w3 ⟨rfl, hb⟩; have HT := Lib.hid (HT.out.below hb); clear hb; have p0 := HT.out.a.c 0; have p1 := HT.out.a.c 1; have p2 := HT.out.a.c 2; have p3 := HT.out.a.c 3; have p4 := HT.out.a.c 4; have p5 := HT.out.a.c 5; have q0 := HT.out.b.c 0; have q1 := HT.out.b.c 1; have q2 := HT.out.b.c 2; have q3 := HT.out.b.c 3; have q4 := HT.out.b.c 4; have q5 := HT.out.b.c 5; simp only [List.getElem?_toArray, List.getElem?_cons_zero, List.getElem?_cons_succ] at p0 p1 p2 p3 p4 p5 q0 q1 q2 q3 q4 q5)
          | (go_at_call_of 123 k2; go_must (refine (isStar_q k2 _ _ _ _ _ _ _ _ _ HS2.out).mono ?_); rintro e w3 ⟨rfl, hb⟩; have HT := Lib.hid (HT.out.below hb); clear hb; have p0 := HT.out.a.c 0; have p1 := HT.out.a.c 1; have p2 := HT.out.a.c 2; have p3 := HT.out.a.c 3; have p4 := HT.out.a.c 4; have p5 := HT.out.a.c 5; have q0 := HT.out.b.c 0; have q1 := HT.out.b.c 1; have q2 := HT.out.b.c 2; have q3 := HT.out.b.c 3; have q4 := HT.out.b.c 4; have q5 := HT.out.b.c 5; simp only [List.getElem?_toArray, List.getElem?_cons_zero, List.getElem?_cons_succ] at p0 p1 p2 p3 p4 p5 q0 q1 q2 q3 q4 q5)
          | (go_at_call 82; go_must (refine (isBlank_q _ _ _ HBl.out).mono ?_); rintro e w3 ⟨rfl, hw3⟩; obtain rfl := hw3.symm))
        go_ret
        exact ⟨rfl, HT.out.bel⟩
    · obtain rfl := empty_lit h0
      have hvf : v = true := HV.out.symm
      subst hvf
      clear HV h0
      go_enter Tryd.func104, Tryd.ntmps104
      go_wp2_with fail
      have p0 := HT.out.a.c 0
      have p1 := HT.out.a.c 1
      have p2 := HT.out.a.c 2
      have p3 := HT.out.a.c 3
      have p4 := HT.out.a.c 4
      have p5 := HT.out.a.c 5
      have q0 := HT.out.b.c 0
      have q1 := HT.out.b.c 1
      have q2 := HT.out.b.c 2
      have q3 := HT.out.b.c 3
      have q4 := HT.out.b.c 4
      have q5 := HT.out.b.c 5
      simp only [List.getElem?_toArray, List.getElem?_cons_zero, List.getElem?_cons_succ] at p0 p1 p2 p3 p4 p5 q0 q1 q2 q3 q4 q5
      go_wp2_with (first
        | (go_at_call_of 81 k1; go_must (refine (isBreak_q k1 _ _ _ _ _ _ _ _ _ HK1.out).mono ?_); rintro e w3 ⟨rfl, hb⟩; have HT := Lib.hid (HT.out.below hb); clear hb; have p0 := HT.out.a.c 0; have p1 := HT.out.a.c 1; have p2 := HT.out.a.c 2; have p3 := HT.out.a.c 3; have p4 := HT.out.a.c 4; have p5 := HT.out.a.c 5; have q0 := HT.out.b.c 0; have q1 := HT.out.b.c 1; have q2 := HT.out.b.c 2; have q3 := HT.out.b.c 3; have q4 := HT.out.b.c 4; have q5 := HT.out.b.c 5; simp only [List.getElem?_toArray, List.getElem?_cons_zero, List.getElem?_cons_succ] at p0 p1 p2 p3 p4 p5 q0 q1 q2 q3 q4 q5)
        | (go_at_call_of 81 k2; go_must (refine (isBreak_q k2 _ _ _ _ _ _ _ _ _ HK2.out).mono ?_); rintro e w3 ⟨rfl, hb⟩; have HT := Lib.hid (HT.out.below hb); clear hb; have p0 := HT.out.a.c 0; have p1 := HT.out.a.c 1; have p2 := HT.out.a.c 2; have p3 := HT.out.a.c 3; have p4 := HT.out.a.c 4; have p5 := HT.out.a.c 5; have q0 := HT.out.b.c 0; have q1 := HT.out.b.c 1; have q2 := HT.out.b.c 2; have q3 := HT.out.b.c 3; have q4 := HT.out.b.c 4; have q5 := HT.out.b.c 5; simp only [List.getElem?_toArray, List.getElem?_cons_zero, List.getElem?_cons_succ] at p0 p1 p2 p3 p4 p5 q0 q1 q2 q3 q4 q5)
        | (go_at_call_of 123 k1; go_must (refine (isStar_q k1 _ _ _ _ _ _ _ _ _ HS1.out).mono ?_); rintro e w3 ⟨rfl, hb⟩; have HT := Lib.hid (HT.out.below hb); clear hb; have p0 := HT.out.a.c 0; have p1 := HT.out.a.c 1; have p2 := HT.out.a.c 2; have p3 := HT.out.a.c 3; have p4 := HT.out.a.c 4; have p5 := HT.out.a.c 5; have q0 := HT.out.b.c 0; have q1 := HT.out.b.c 1; have q2 := HT.out.b.c 2; have q3 := HT.out.b.c 3; have q4 := HT.out.b.c 4; have q5 := HT.out.b.c 5; simp only [List.getElem?_toArray, List.getElem?_cons_zero, List.getElem?_cons_succ] at p0 p1 p2 p3 p4 p5 q0 q1 q2 q3 q4 q5)
        | (go_at_call_of 123 k2; go_must (refine (isStar_q k2 _ _ _ _ _ _ _ _ _ HS2.out).mono ?_); rintro e w3 ⟨rfl, hb⟩; have HT := Lib.hid (HT.out.below hb); clear hb; have p0 := HT.out.a.c 0; have p1 := HT.out.a.c 1; have p2 := HT.out.a.c 2; have p3 := HT.out.a.c 3; have p4 := HT.out.a.c 4; have p5 := HT.out.a.c 5; have q0 := HT.out.b.c 0; have q1 := HT.out.b.c 1; have q2 := HT.out.b.c 2; have q3 := HT.out.b.c 3; have q4 := HT.out.b.c 4; have q5 := HT.out.b.c 5; simp only [List.getElem?_toArray, List.getElem?_cons_zero, List.getElem?_cons_succ] at p0 p1 p2 p3 p4 p5 q0 q1 q2 q3 q4 q5)
        | (go_at_call 82; go_must (refine (isBlank_q _ _ _ HBl.out).mono ?_); rintro e w3 ⟨rfl, hw3⟩; obtain rfl := hw3.symm))
      go_ret
      exact ⟨rfl, HT.out.bel⟩
  · have hvf : v = false := HV.out.symm
    subst hvf
    clear HV
    go_enter Tryd.func104, Tryd.ntmps104
    go_wp2_with fail
    have p0 := HT.out.a.c 0
    have p1 := HT.out.a.c 1
    have p2 := HT.out.a.c 2
    have p3 := HT.out.a.c 3
    have p4 := HT.out.a.c 4
    have p5 := HT.out.a.c 5
    have q0 := HT.out.b.c 0
    have q1 := HT.out.b.c 1
    have q2 := HT.out.b.c 2
    have q3 := HT.out.b.c 3
    have q4 := HT.out.b.c 4
    have q5 := HT.out.b.c 5
    simp only [List.getElem?_toArray, List.getElem?_cons_zero, List.getElem?_cons_succ] at p0 p1 p2 p3 p4 p5 q0 q1 q2 q3 q4 q5
    go_wp2_with (first
      | (go_at_call_of 81 k1; go_must (refine (isBreak_q k1 _ _ _ _ _ _ _ _ _ HK1.out).mono ?_); rintro e w3 ⟨rfl, hb⟩; have HT := Lib.hid (HT.out.below hb); clear hb; have p0 := HT.out.a.c 0; have p1 := HT.out.a.c 1; have p2 := HT.out.a.c 2; have p3 := HT.out.a.c 3; have p4 := HT.out.a.c 4; have p5 := HT.out.a.c 5; have q0 := HT.out.b.c 0; have q1 := HT.out.b.c 1; have q2 := HT.out.b.c 2; have q3 := HT.out.b.c 3; have q4 := HT.out.b.c 4; have q5 := HT.out.b.c 5; simp only [List.getElem?_toArray, List.getElem?_cons_zero, List.getElem?_cons_succ] at p0 p1 p2 p3 p4 p5 q0 q1 q2 q3 q4 q5)
      | (go_at_call_of 81 k2; go_must (refine (isBreak_q k2 _ _ _ _ _ _ _ _ _ HK2.out).mono ?_); rintro e w3 ⟨rfl, hb⟩; have HT := Lib.hid (HT.out.below hb); clear hb; have p0 := HT.out.a.c 0; have p1 := HT.out.a.c 1; have p2 := HT.out.a.c 2; have p3 := HT.out.a.c 3; have p4 := HT.out.a.c 4; have p5 := HT.out.a.c 5; have q0 := HT.out.b.c 0; have q1 := HT.out.b.c 1; have q2 := HT.out.b.c 2; have q3 := HT.out.b.c 3; have q4 := HT.out.b.c 4; have q5 := HT.out.b.c 5; simp only [List.getElem?_toArray, List.getElem?_cons_zero, List.getElem?_cons_succ] at p0 p1 p2 p3 p4 p5 q0 q1 q2 q3 q4 q5)
      | (go_at_call_of 123 k1; go_must (refine (isStar_q k1 _ _ _ _ _ _ _ _ _ HS1.out).mono ?_); rintro e w3 ⟨rfl, hb⟩; have HT := Lib.hid (HT.out.below hb); clear hb; have p0 := HT.out.a.c 0; have p1 := HT.out.a.c 1; have p2 := HT.out.a.c 2; have p3 := HT.out.a.c 3; have p4 := HT.out.a.c 4; have p5 := HT.out.a.c 5; have q0 := HT.out.b.c 0; have q1 := HT.out.b.c 1; have q2 := HT.out.b.c 2; have q3 := HT.out.b.c 3; have q4 := HT.out.b.c 4; have q5 := HT.out.b.c 5; simp only [List.getElem?_toArray, List.getElem?_cons_zero, List.getElem?_cons_succ] at p0 p1 p2 p3 p4 p5 q0 q1 q2 q3 q4 q5)
      | (go_at_call_of 123 k2; go_must (refine (isStar_q k2 _ _ _ _ _ _ _ _ _ HS2.out).mono ?_); rintro e w3 ⟨rfl, hb⟩; have HT := Lib.hid (HT.out.below hb); clear hb; have p0 := HT.out.a.c 0; have p1 := HT.out.a.c 1; have p2 := HT.out.a.c 2; have p3 := HT.out.a.c 3; have p4 := HT.out.a.c 4; have p5 := HT.out.a.c 5; have q0 := HT.out.b.c 0; have q1 := HT.out.b.c 1; have q2 := HT.out.b.c 2; have q3 := HT.out.b.c 3; have q4 := HT.out.b.c 4; have q5 := HT.out.b.c 5; simp only [List.getElem?_toArray, List.getElem?_cons_zero, List.getElem?_cons_succ] at p0 p1 p2 p3 p4 p5 q0 q1 q2 q3 q4 q5)
      | (go_at_call 82; go_must (refine (isBlank_q _ _ _ HBl.out).mono ?_); rintro e w3 ⟨rfl, hw3⟩; obtain rfl := hw3.symm))
    go_ret
    exact ⟨rfl, HT.out.bel⟩
  · have hvf : v = true := HV.out.symm
    subst hvf
    clear HV
    go_enter Tryd.func104, Tryd.ntmps104
    go_wp2_with fail
    have p0 := HT.out.a.c 0
    have p1 := HT.out.a.c 1
    have p2 := HT.out.a.c 2
    have p3 := HT.out.a.c 3
    have p4 := HT.out.a.c 4
    have p5 := HT.out.a.c 5
    have q0 := HT.out.b.c 0
    have q1 := HT.out.b.c 1
    have q2 := HT.out.b.c 2
    have q3 := HT.out.b.c 3
    have q4 := HT.out.b.c 4
    have q5 := HT.out.b.c 5
    simp only [List.getElem?_toArray, List.getElem?_cons_zero, List.getElem?_cons_succ] at p0 p1 p2 p3 p4 p5 q0 q1 q2 q3 q4 q5
    go_wp2_with (first
      | (go_at_call_of 81 k1; go_must (refine (isBreak_q k1 _ _ _ _ _ _ _ _ _ HK1.out).mono ?_); rintro e w3 ⟨rfl, hb⟩; have HT := Lib.hid (HT.out.below hb); clear hb; have p0 := HT.out.a.c 0; have p1 := HT.out.a.c 1; have p2 := HT.out.a.c 2; have p3 := HT.out.a.c 3; have p4 := HT.out.a.c 4; have p5 := HT.out.a.c 5; have q0 := HT.out.b.c 0; have q1 := HT.out.b.c 1; have q2 := HT.out.b.c 2; have q3 := HT.out.b.c 3; have q4 := HT.out.b.c 4; have q5 := HT.out.b.c 5; simp only [List.getElem?_toArray, List.getElem?_cons_zero, List.getElem?_cons_succ] at p0 p1 p2 p3 p4 p5 q0 q1 q2 q3 q4 q5)
      | (go_at_call_of 81 k2; go_must (refine (isBreak_q k2 _ _ _ _ _ _ _ _ _ HK2.out).mono ?_); rintro e w3 ⟨rfl, hb⟩; have HT := Lib.hid (HT.out.below hb); clear hb; have p0 := HT.out.a.c 0; have p1 := HT.out.a.c 1; have p2 := HT.out.a.c 2; have p3 := HT.out.a.c 3; have p4 := HT.out.a.c 4; have p5 := HT.out.a.c 5; have q0 := HT.out.b.c 0; have q1 := HT.out.b.c 1; have q2 := HT.out.b.c 2; have q3 := HT.out.b.c 3; have q4 := HT.out.b.c 4; have q5 := HT.out.b.c 5; simp only [List.getElem?_toArray, List.getElem?_cons_zero, List.getElem?_cons_succ] at p0 p1 p2 p3 p4 p5 q0 q1 q2 q3 q4 q5)
      | (go_at_call_of 123 k1; go_must (refine (isStar_q k1 _ _ _ _ _ _ _ _ _ HS1.out).mono ?_); rintro e w3 ⟨rfl, hb⟩; have HT := Lib.hid (HT.out.below hb); clear hb; have p0 := HT.out.a.c 0; have p1 := HT.out.a.c 1; have p2 := HT.out.a.c 2; have p3 := HT.out.a.c 3; have p4 := HT.out.a.c 4; have p5 := HT.out.a.c 5; have q0 := HT.out.b.c 0; have q1 := HT.out.b.c 1; have q2 := HT.out.b.c 2; have q3 := HT.out.b.c 3; have q4 := HT.out.b.c 4; have q5 := HT.out.b.c 5; simp only [List.getElem?_toArray, List.getElem?_cons_zero, List.getElem?_cons_succ] at p0 p1 p2 p3 p4 p5 q0 q1 q2 q3 q4 q5)
      | (go_at_call_of 123 k2; go_must (refine (isStar_q k2 _ _ _ _ _ _ _ _ _ HS2.out).mono ?_); rintro e w3 ⟨rfl, hb⟩; have HT := Lib.hid (HT.out.below hb); clear hb; have p0 := HT.out.a.c 0; have p1 := HT.out.a.c 1; have p2 := HT.out.a.c 2; have p3 := HT.out.a.c 3; have p4 := HT.out.a.c 4; have p5 := HT.out.a.c 5; have q0 := HT.out.b.c 0; have q1 := HT.out.b.c 1; have q2 := HT.out.b.c 2; have q3 := HT.out.b.c 3; have q4 := HT.out.b.c 4; have q5 := HT.out.b.c 5; simp only [List.getElem?_toArray, List.getElem?_cons_zero, List.getElem?_cons_succ] at p0 p1 p2 p3 p4 p5 q0 q1 q2 q3 q4 q5)
      | (go_at_call 82; go_must (refine (isBlank_q _ _ _ HBl.out).mono ?_); rintro e w3 ⟨rfl, hw3⟩; obtain rfl := hw3.symm))
    go_ret
    exact ⟨rfl, HT.out.bel⟩
  · have hvf : v = true := HV.out.symm
    subst hvf
    clear HV
    go_enter Tryd.func104, Tryd.ntmps104
    go_wp2_with fail
    have p0 := HT.out.a.c 0
    have p1 := HT.out.a.c 1
    have p2 := HT.out.a.c 2
    have p3 := HT.out.a.c 3
    have p4 := HT.out.a.c 4
    have p5 := HT.out.a.c 5
    have q0 := HT.out.b.c 0
    have q1 := HT.out.b.c 1
    have q2 := HT.out.b.c 2
    have q3 := HT.out.b.c 3
    have q4 := HT.out.b.c 4
    have q5 := HT.out.b.c 5
    simp only [List.getElem?_toArray, List.getElem?_cons_zero, List.getElem?_cons_succ] at p0 p1 p2 p3 p4 p5 q0 q1 q2 q3 q4 q5
    go_wp2_with (first
      | (go_at_call_of 81 k1; go_must (refine (isBreak_q k1 _ _ _ _ _ _ _ _ _ HK1.out).mono ?_); rintro e w3 ⟨rfl, hb⟩; have HT := Lib.hid (HT.out.below hb); clear hb; have p0 := HT.out.a.c 0; have p1 := HT.out.a.c 1; have p2 := HT.out.a.c 2; have p3 := HT.out.a.c 3; have p4 := HT.out.a.c 4; have p5 := HT.out.a.c 5; have q0 := HT.out.b.c 0; have q1 := HT.out.b.c 1; have q2 := HT.out.b.c 2; have q3 := HT.out.b.c 3; have q4 := HT.out.b.c 4; have q5 := HT.out.b.c 5; simp only [List.getElem?_toArray, List.getElem?_cons_zero, List.getElem?_cons_succ] at p0 p1 p2 p3 p4 p5 q0 q1 q2 q3 q4 q5)
      | (go_at_call_of 81 k2; go_must (refine (isBreak_q k2 _ _ _ _ _ _ _ _ _ HK2.out).mono ?_); rintro e w3 ⟨rfl, hb⟩; have HT := Lib.hid (HT.out.below hb); clear hb; have p0 := HT.out.a.c 0; have p1 := HT.out.a.c 1; have p2 := HT.out.a.c 2; have p3 := HT.out.a.c 3; have p4 := HT.out.a.c 4; have p5 := HT.out.a.c 5; have q0 := HT.out.b.c 0; have q1 := HT.out.b.c 1; have q2 := HT.out.b.c 2; have q3 := HT.out.b.c 3; have q4 := HT.out.b.c 4; have q5 := HT.out.b.c 5; simp only [List.getElem?_toArray, List.getElem?_cons_zero, List.getElem?_cons_succ] at p0 p1 p2 p3 p4 p5 q0 q1 q2 q3 q4 q5)
      | (go_at_call_of 123 k1; go_must (refine (isStar_q k1 _ _ _ _ _ _ _ _ _ HS1.out).mono ?_); rintro e w3 ⟨rfl, hb⟩; have HT := Lib.hid (HT.out.below hb); clear hb; have p0 := HT.out.a.c 0; have p1 := HT.out.a.c 1; have p2 := HT.out.a.c 2; have p3 := HT.out.a.c 3; have p4 := HT.out.a.c 4; have p5 := HT.out.a.c 5; have q0 := HT.out.b.c 0; have q1 := HT.out.b.c 1; have q2 := HT.out.b.c 2; have q3 := HT.out.b.c 3; have q4 := HT.out.b.c 4; have q5 := HT.out.b.c 5; simp only [List.getElem?_toArray, List.getElem?_cons_zero, List.getElem?_cons_succ] at p0 p1 p2 p3 p4 p5 q0 q1 q2 q3 q4 q5)
      | (go_at_call_of 123 k2; go_must (refine (isStar_q k2 _ _ _ _ _ _ _ _ _ HS2.out).mono ?_); rintro e w3 ⟨rfl, hb⟩; have HT := Lib.hid (HT.out.below hb); clear hb; have p0 := HT.out.a.c 0; have p1 := HT.out.a.c 1; have p2 := HT.out.a.c 2; have p3 := HT.out.a.c 3; have p4 := HT.out.a.c 4; have p5 := HT.out.a.c 5; have q0 := HT.out.b.c 0; have q1 := HT.out.b.c 1; have q2 := HT.out.b.c 2; have q3 := HT.out.b.c 3; have q4 := HT.out.b.c 4; have q5 := HT.out.b.c 5; simp only [List.getElem?_toArray, List.getElem?_cons_zero, List.getElem?_cons_succ] at p0 p1 p2 p3 p4 p5 q0 q1 q2 q3 q4 q5)
      | (go_at_call 82; go_must (refine (isBlank_q _ _ _ HBl.out).mono ?_); rintro e w3 ⟨rfl, hw3⟩; obtain rfl := hw3.symm))
    go_ret
    exact ⟨rfl, HT.out.bel⟩
  · have hvf : v = true := HV.out.symm
    subst hvf
    clear HV
    go_enter Tryd.func104, Tryd.ntmps104
    go_wp2_with fail
    have p0 := HT.out.a.c 0
    have p1 := HT.out.a.c 1
    have p2 := HT.out.a.c 2
    have p3 := HT.out.a.c 3
    have p4 := HT.out.a.c 4
    have p5 := HT.out.a.c 5
    have q0 := HT.out.b.c 0
    have q1 := HT.out.b.c 1
    have q2 := HT.out.b.c 2
    have q3 := HT.out.b.c 3
    have q4 := HT.out.b.c 4
    have q5 := HT.out.b.c 5
    simp only [List.getElem?_toArray, List.getElem?_cons_zero, List.getElem?_cons_succ] at p0 p1 p2 p3 p4 p5 q0 q1 q2 q3 q4 q5
    go_wp2_with (first
      | (go_at_call_of 81 k1; go_must (refine (isBreak_q k1 _ _ _ _ _ _ _ _ _ HK1.out).mono ?_); rintro e w3 ⟨rfl, hb⟩; have HT := Lib.hid (HT.out.below hb); clear hb; have p0 := HT.out.a.c 0; have p1 := HT.out.a.c 1; have p2 := HT.out.a.c 2; have p3 := HT.out.a.c 3; have p4 := HT.out.a.c 4; have p5 := HT.out.a.c 5; have q0 := HT.out.b.c 0; have q1 := HT.out.b.c 1; have q2 := HT.out.b.c 2; have q3 := HT.out.b.c 3; have q4 := HT.out.b.c 4; have q5 := HT.out.b.c 5; simp only [List.getElem?_toArray, List.getElem?_cons_zero, List.getElem?_cons_succ] at p0 p1 p2 p3 p4 p5 q0 q1 q2 q3 q4 q5)
      | (go_at_call_of 81 k2; go_must (refine (isBreak_q k2 _ _ _ _ _ _ _ _ _ HK2.out).mono ?_); rintro e w3 ⟨rfl, hb⟩; have HT := Lib.hid (HT.out.below hb); clear hb; have p0 := HT.out.a.c 0; have p1 := HT.out.a.c 1; have p2 := HT.out.a.c 2; have p3 := HT.out.a.c 3; have p4 := HT.out.a.c 4; have p5 := HT.out.a.c 5; have q0 := HT.out.b.c 0; have q1 := HT.out.b.c 1; have q2 := HT.out.b.c 2; have q3 := HT.out.b.c 3; have q4 := HT.out.b.c 4; have q5 := HT.out.b.c 5; simp only [List.getElem?_toArray, List.getElem?_cons_zero, List.getElem?_cons_succ] at p0 p1 p2 p3 p4 p5 q0 q1 q2 q3 q4 q5)
      | (go_at_call_of 123 k1; go_must (refine (isStar_q k1 _ _ _ _ _ _ _ _ _ HS1.out).mono ?_); rintro e w3 ⟨rfl, hb⟩; have HT := Lib.hid (HT.out.below hb); clear hb; have p0 := HT.out.a.c 0; have p1 := HT.out.a.c 1; have p2 := HT.out.a.c 2; have p3 := HT.out.a.c 3; have p4 := HT.out.a.c 4; have p5 := HT.out.a.c 5; have q0 := HT.out.b.c 0; have q1 := HT.out.b.c 1; have q2 := HT.out.b.c 2; have q3 := HT.out.b.c 3; have q4 := HT.out.b.c 4; have q5 := HT.out.b.c 5; simp only [List.getElem?_toArray, List.getElem?_cons_zero, List.getElem?_cons_succ] at p0 p1 p2 p3 p4 p5 q0 q1 q2 q3 q4 q5)
      | (go_at_call_of 123 k2; go_must (refine (isStar_q k2 _ _ _ _ _ _ _ _ _ HS2.out).mono ?_); rintro e w3 ⟨rfl, hb⟩; have HT := Lib.hid (HT.out.below hb); clear hb; have p0 := HT.out.a.c 0; have p1 := HT.out.a.c 1; have p2 := HT.out.a.c 2; have p3 := HT.out.a.c 3; have p4 := HT.out.a.c 4; have p5 := HT.out.a.c 5; have q0 := HT.out.b.c 0; have q1 := HT.out.b.c 1; have q2 := HT.out.b.c 2; have q3 := HT.out.b.c 3; have q4 := HT.out.b.c 4; have q5 := HT.out.b.c 5; simp only [List.getElem?_toArray, List.getElem?_cons_zero, List.getElem?_cons_succ] at p0 p1 p2 p3 p4 p5 q0 q1 q2 q3 q4 q5)
      | (go_at_call 82; go_must (refine (isBlank_q _ _ _ HBl.out).mono ?_); rintro e w3 ⟨rfl, hw3⟩; obtain rfl := hw3.symm))
    go_ret
    exact ⟨rfl, HT.out.bel⟩
  · have hvf : v = true := HV.out.symm
    subst hvf
    clear HV
    go_enter Tryd.func104, Tryd.ntmps104
    go_wp2_with fail
    have p0 := HT.out.a.c 0
    have p1 := HT.out.a.c 1
    have p2 := HT.out.a.c 2
    have p3 := HT.out.a.c 3
    have p4 := HT.out.a.c 4
    have p5 := HT.out.a.c 5
    have q0 := HT.out.b.c 0
    have q1 := HT.out.b.c 1
    have q2 := HT.out.b.c 2
    have q3 := HT.out.b.c 3
    have q4 := HT.out.b.c 4
    have q5 := HT.out.b.c 5
    simp only [List.getElem?_toArray, List.getElem?_cons_zero, List.getElem?_cons_succ] at p0 p1 p2 p3 p4 p5 q0 q1 q2 q3 q4 q5
    go_wp2_with (first
      | (go_at_call_of 81 k1; go_must (refine (isBreak_q k1 _ _ _ _ _ _ _ _ _ HK1.out).mono ?_); rintro e w3 ⟨rfl, hb⟩; have HT := Lib.hid (HT.out.below hb); clear hb; have p0 := HT.out.a.c 0; have p1 := HT.out.a.c 1; have p2 := HT.out.a.c 2; have p3 := HT.out.a.c 3; have p4 := HT.out.a.c 4; have p5 := HT.out.a.c 5; have q0 := HT.out.b.c 0; have q1 := HT.out.b.c 1; have q2 := HT.out.b.c 2; have q3 := HT.out.b.c 3; have q4 := HT.out.b.c 4; have q5 := HT.out.b.c 5; simp only [List.getElem?_toArray, List.getElem?_cons_zero, List.getElem?_cons_succ] at p0 p1 p2 p3 p4 p5 q0 q1 q2 q3 q4 q5)
      | (go_at_call_of 81 k2; go_must (refine (isBreak_q k2 _ _ _ _ _ _ _ _ _ HK2.out).mono ?_); rintro e w3 ⟨rfl, hb⟩; have HT := Lib.hid (HT.out.below hb); clear hb; have p0 := HT.out.a.c 0; have p1 := HT.out.a.c 1; have p2 := HT.out.a.c 2; have p3 := HT.out.a.c 3; have p4 := HT.out.a.c 4; have p5 := HT.out.a.c 5; have q0 := HT.out.b.c 0; have q1 := HT.out.b.c 1; have q2 := HT.out.b.c 2; have q3 := HT.out.b.c 3; have q4 := HT.out.b.c 4; have q5 := HT.out.b.c 5; simp only [List.getElem?_toArray, List.getElem?_cons_zero, List.getElem?_cons_succ] at p0 p1 p2 p3 p4 p5 q0 q1 q2 q3 q4 q5)
      | (go_at_call_of 123 k1; go_must (refine (isStar_q k1 _ _ _ _ _ _ _ _ _ HS1.out).mono ?_); rintro e w3 ⟨rfl, hb⟩; have HT := Lib.hid (HT.out.below hb); clear hb; have p0 := HT.out.a.c 0; have p1 := HT.out.a.c 1; have p2 := HT.out.a.c 2; have p3 := HT.out.a.c 3; have p4 := HT.out.a.c 4; have p5 := HT.out.a.c 5; have q0 := HT.out.b.c 0; have q1 := HT.out.b.c 1; have q2 := HT.out.b.c 2; have q3 := HT.out.b.c 3; have q4 := HT.out.b.c 4; have q5 := HT.out.b.c 5; simp only [List.getElem?_toArray, List.getElem?_cons_zero, List.getElem?_cons_succ] at p0 p1 p2 p3 p4 p5 q0 q1 q2 q3 q4 q5)
      | (go_at_call_of 123 k2; go_must (refine (isStar_q k2 _ _ _ _ _ _ _ _ _ HS2.out).mono ?_); rintro e w3 ⟨rfl, hb⟩; have HT := Lib.hid (HT.out.below hb); clear hb; have p0 := HT.out.a.c 0; have p1 := HT.out.a.c 1; have p2 := HT.out.a.c 2; have p3 := HT.out.a.c 3; have p4 := HT.out.a.c 4; have p5 := HT.out.a.c 5; have q0 := HT.out.b.c 0; have q1 := HT.out.b.c 1; have q2 := HT.out.b.c 2; have q3 := HT.out.b.c 3; have q4 := HT.out.b.c 4; have q5 := HT.out.b.c 5; simp only [List.getElem?_toArray, List.getElem?_cons_zero, List.getElem?_cons_succ] at p0 p1 p2 p3 p4 p5 q0 q1 q2 q3 q4 q5)
      | (go_at_call 82; go_must (refine (isBlank_q _ _ _ HBl.out).mono ?_); rintro e w3 ⟨rfl, hw3⟩; obtain rfl := hw3.symm))
    go_ret
    exact ⟨rfl, HT.out.bel⟩
  · have hvf : v = false := HV.out.symm
    subst hvf
    clear HV
    go_enter Tryd.func104, Tryd.ntmps104
    go_wp2_with fail
    have p0 := HT.out.a.c 0
    have p1 := HT.out.a.c 1
    have p2 := HT.out.a.c 2
    have p3 := HT.out.a.c 3
    have p4 := HT.out.a.c 4
    have p5 := HT.out.a.c 5
    have q0 := HT.out.b.c 0
    have q1 := HT.out.b.c 1
    have q2 := HT.out.b.c 2
    have q3 := HT.out.b.c 3
    have q4 := HT.out.b.c 4
    have q5 := HT.out.b.c 5
    simp only [List.getElem?_toArray, List.getElem?_cons_zero, List.getElem?_cons_succ] at p0 p1 p2 p3 p4 p5 q0 q1 q2 q3 q4 q5
    go_wp2_with (first
      | (go_at_call_of 81 k1; go_must (refine (isBreak_q k1 _ _ _ _ _ _ _ _ _ HK1.out).mono ?_); rintro e w3 ⟨rfl, hb⟩; have HT := Lib.hid (HT.out.below hb); clear hb; have p0 := HT.out.a.c 0; have p1 := HT.out.a.c 1; have p2 := HT.out.a.c 2; have p3 := HT.out.a.c 3; have p4 := HT.out.a.c 4; have p5 := HT.out.a.c 5; have q0 := HT.out.b.c 0; have q1 := HT.out.b.c 1; have q2 := HT.out.b.c 2; have q3 := HT.out.b.c 3; have q4 := HT.out.b.c 4; have q5 := HT.out.b.c 5; simp only [List.getElem?_toArray, List.getElem?_cons_zero, List.getElem?_cons_succ] at p0 p1 p2 p3 p4 p5 q0 q1 q2 q3 q4 q5)
      | (go_at_call_of 81 k2; go_must (refine (isBreak_q k2 _ _ _ _ _ _ _ _ _ HK2.out).mono ?_); rintro e w3 ⟨rfl, hb⟩; have HT := Lib.hid (HT.out.below hb); clear hb; have p0 := HT.out.a.c 0; have p1 := HT.out.a.c 1; have p2 := HT.out.a.c 2; have p3 := HT.out.a.c 3; have p4 := HT.out.a.c 4; have p5 := HT.out.a.c 5; have q0 := HT.out.b.c 0; have q1 := HT.out.b.c 1; have q2 := HT.out.b.c 2; have q3 := HT.out.b.c 3; have q4 := HT.out.b.c 4; have q5 := HT.out.b.c 5; simp only [List.getElem?_toArray, List.getElem?_cons_zero, List.getElem?_cons_succ] at p0 p1 p2 p3 p4 p5 q0 q1 q2 q3 q4 q5)
      | (go_at_call_of 123 k1; go_must (refine (isStar_q k1 _ _ _ _ _ _ _ _ _ HS1.out).mono ?_); rintro e w3 ⟨rfl, hb⟩; have HT := Lib.hid (HT.out.below hb); clear hb; have p0 := HT.out.a.c 0; have p1 := HT.out.a.c 1; have p2 := HT.out.a.c 2; have p3 := HT.out.a.c 3; have p4 := HT.out.a.c 4; have p5 := HT.out.a.c 5; have q0 := HT.out.b.c 0; have q1 := HT.out.b.c 1; have q2 := HT.out.b.c 2; have q3 := HT.out.b.c 3; have q4 := HT.out.b.c 4; have q5 := HT.out.b.c 5; simp only [List.getElem?_toArray, List.getElem?_cons_zero, List.getElem?_cons_succ] at p0 p1 p2 p3 p4 p5 q0 q1 q2 q3 q4 q5)
      | (go_at_call_of 123 k2; go_must (refine (isStar_q k2 _ _ _ _ _ _ _ _ _ HS2.out).mono ?_); rintro e w3 ⟨rfl, hb⟩; have HT := Lib.hid (HT.out.below hb); clear hb; have p0 := HT.out.a.c 0; have p1 := HT.out.a.c 1; have p2 := HT.out.a.c 2; have p3 := HT.out.a.c 3; have p4 := HT.out.a.c 4; have p5 := HT.out.a.c 5; have q0 := HT.out.b.c 0; have q1 := HT.out.b.c 1; have q2 := HT.out.b.c 2; have q3 := HT.out.b.c 3; have q4 := HT.out.b.c 4; have q5 := HT.out.b.c 5; simp only [List.getElem?_toArray, List.getElem?_cons_zero, List.getElem?_cons_succ] at p0 p1 p2 p3 p4 p5 q0 q1 q2 q3 q4 q5)
      | (go_at_call 82; go_must (refine (isBlank_q _ _ _ HBl.out).mono ?_); rintro e w3 ⟨rfl, hw3⟩; obtain rfl := hw3.symm))
    go_ret
    exact ⟨rfl, HT.out.bel⟩
  · have hvf : v = true := HV.out.symm
    subst hvf
    clear HV
    go_enter Tryd.func104, Tryd.ntmps104
    go_wp2_with fail
    have p0 := HT.out.a.c 0
    have p1 := HT.out.a.c 1
    have p2 := HT.out.a.c 2
    have p3 := HT.out.a.c 3
    have p4 := HT.out.a.c 4
    have p5 := HT.out.a.c 5
    have q0 := HT.out.b.c 0
    have q1 := HT.out.b.c 1
    have q2 := HT.out.b.c 2
    have q3 := HT.out.b.c 3
    have q4 := HT.out.b.c 4
    have q5 := HT.out.b.c 5
    simp only [List.getElem?_toArray, List.getElem?_cons_zero, List.getElem?_cons_succ] at p0 p1 p2 p3 p4 p5 q0 q1 q2 q3 q4 q5
    go_wp2_with (first
      | (go_at_call_of 81 k1; go_must (refine (isBreak_q k1 _ _ _ _ _ _ _ _ _ HK1.out).mono ?_); rintro e w3 ⟨rfl, hb⟩; have HT := Lib.hid (HT.out.below hb); clear hb; have p0 := HT.out.a.c 0; have p1 := HT.out.a.c 1; have p2 := HT.out.a.c 2; have p3 := HT.out.a.c 3; have p4 := HT.out.a.c 4; have p5 := HT.out.a.c 5; have q0 := HT.out.b.c 0; have q1 := HT.out.b.c 1; have q2 := HT.out.b.c 2; have q3 := HT.out.b.c 3; have q4 := HT.out.b.c 4; have q5 := HT.out.b.c 5; simp only [List.getElem?_toArray, List.getElem?_cons_zero, List.getElem?_cons_succ] at p0 p1 p2 p3 p4 p5 q0 q1 q2 q3 q4 q5)
      | (go_at_call_of 81 k2; go_must (refine (isBreak_q k2 _ _ _ _ _ _ _ _ _ HK2.out).mono ?_); rintro e w3 ⟨rfl, hb⟩; have HT := Lib.hid (HT.out.below hb); clear hb; have p0 := HT.out.a.c 0; have p1 := HT.out.a.c 1; have p2 := HT.out.a.c 2; have p3 := HT.out.a.c 3; have p4 := HT.out.a.c 4; have p5 := HT.out.a.c 5; have q0 := HT.out.b.c 0; have q1 := HT.out.b.c 1; have q2 := HT.out.b.c 2; have q3 := HT.out.b.c 3; have q4 := HT.out.b.c 4; have q5 := HT.out.b.c 5; simp only [List.getElem?_toArray, List.getElem?_cons_zero, List.getElem?_cons_succ] at p0 p1 p2 p3 p4 p5 q0 q1 q2 q3 q4 q5)
      | (go_at_call_of 123 k1; go_must (refine (isStar_q k1 _ _ _ _ _ _ _ _ _ HS1.out).mono ?_); rintro e w3 ⟨rfl, hb⟩; have HT := Lib.hid (HT.out.below hb); clear hb; have p0 := HT.out.a.c 0; have p1 := HT.out.a.c 1; have p2 := HT.out.a.c 2; have p3 := HT.out.a.c 3; have p4 := HT.out.a.c 4; have p5 := HT.out.a.c 5; have q0 := HT.out.b.c 0; have q1 := HT.out.b.c 1; have q2 := HT.out.b.c 2; have q3 := HT.out.b.c 3; have q4 := HT.out.b.c 4; have q5 := HT.out.b.c 5; simp only [List.getElem?_toArray, List.getElem?_cons_zero, List.getElem?_cons_succ] at p0 p1 p2 p3 p4 p5 q0 q1 q2 q3 q4 q5)
      | (go_at_call_of 123 k2; go_must (refine (isStar_q k2 _ _ _ _ _ _ _ _ _ HS2.out).mono ?_); rintro e w3 ⟨rfl, hb⟩; have HT := Lib.hid (HT.out.below hb); clear hb; have p0 := HT.out.a.c 0; have p1 := HT.out.a.c 1; have p2 := HT.out.a.c 2; have p3 := HT.out.a.c 3; have p4 := HT.out.a.c 4; have p5 := HT.out.a.c 5; have q0 := HT.out.b.c 0; have q1 := HT.out.b.c 1; have q2 := HT.out.b.c 2; have q3 := HT.out.b.c 3; have q4 := HT.out.b.c 4; have q5 := HT.out.b.c 5; simp only [List.getElem?_toArray, List.getElem?_cons_zero, List.getElem?_cons_succ] at p0 p1 p2 p3 p4 p5 q0 q1 q2 q3 q4 q5)
      | (go_at_call 82; go_must (refine (isBlank_q _ _ _ HBl.out).mono ?_); rintro e w3 ⟨rfl, hw3⟩; obtain rfl := hw3.symm))
    go_ret
    exact ⟨rfl, HT.out.bel⟩
  · have hvf : v = true := HV.out.symm
    subst hvf
    clear HV
    go_enter Tryd.func104, Tryd.ntmps104
    go_wp2_with fail
    have p0 := HT.out.a.c 0
    have p1 := HT.out.a.c 1
    have p2 := HT.out.a.c 2
    have p3 := HT.out.a.c 3
    have p4 := HT.out.a.c 4
    have p5 := HT.out.a.c 5
    have q0 := HT.out.b.c 0
    have q1 := HT.out.b.c 1
    have q2 := HT.out.b.c 2
    have q3 := HT.out.b.c 3
    have q4 := HT.out.b.c 4
    have q5 := HT.out.b.c 5
    simp only [List.getElem?_toArray, List.getElem?_cons_zero, List.getElem?_cons_succ] at p0 p1 p2 p3 p4 p5 q0 q1 q2 q3 q4 q5
    go_wp2_with (first
      | (go_at_call_of 81 k1; go_must (refine (isBreak_q k1 _ _ _ _ _ _ _ _ _ HK1.out).mono ?_); rintro e w3 ⟨rfl, hb⟩; have HT := Lib.hid (HT.out.below hb); clear hb; have p0 := HT.out.a.c 0; have p1 := HT.out.a.c 1; have p2 := HT.out.a.c 2; have p3 := HT.out.a.c 3; have p4 := HT.out.a.c 4; have p5 := HT.out.a.c 5; have q0 := HT.out.b.c 0; have q1 := HT.out.b.c 1; have q2 := HT.out.b.c 2; have q3 := HT.out.b.c 3; have q4 := HT.out.b.c 4; have q5 := HT.out.b.c 5; simp only [List.getElem?_toArray, List.getElem?_cons_zero, List.getElem?_cons_succ] at p0 p1 p2 p3 p4 p5 q0 q1 q2 q3 q4 q5)
      | (go_at_call_of 81 k2; go_must (refine (isBreak_q k2 _ _ _ _ _ _ _ _ _ HK2.out).mono ?_); rintro e w3 ⟨rfl, hb⟩; have HT := Lib.hid (HT.out.below hb); clear hb; have p0 := HT.out.a.c 0; have p1 := HT.out.a.c 1; have p2 := HT.out.a.c 2; have p3 := HT.out.a.c 3; have p4 := HT.out.a.c 4; have p5 := HT.out.a.c 5; have q0 := HT.out.b.c 0; have q1 := HT.out.b.c 1; have q2 := HT.out.b.c 2; have q3 := HT.out.b.c 3; have q4 := HT.out.b.c 4; have q5 := HT.out.b.c 5; simp only [List.getElem?_toArray, List.getElem?_cons_zero, List.getElem?_cons_succ] at p0 p1 p2 p3 p4 p5 q0 q1 q2 q3 q4 q5)
      | (go_at_call_of 123 k1; go_must (refine (isStar_q k1 _ _ _ _ _ _ _ _ _ HS1.out).mono ?_); rintro e w3 ⟨rfl, hb⟩; have HT := Lib.hid (HT.out.below hb); clear hb; have p0 := HT.out.a.c 0; have p1 := HT.out.a.c 1; have p2 := HT.out.a.c 2; have p3 := HT.out.a.c 3; have p4 := HT.out.a.c 4; have p5 := HT.out.a.c 5; have q0 := HT.out.b.c 0; have q1 := HT.out.b.c 1; have q2 := HT.out.b.c 2; have q3 := HT.out.b.c 3; have q4 := HT.out.b.c 4; have q5 := HT.out.b.c 5; simp only [List.getElem?_toArray, List.getElem?_cons_zero, List.getElem?_cons_succ] at p0 p1 p2 p3 p4 p5 q0 q1 q2 q3 q4 q5)
      | (go_at_call_of 123 k2; go_must (refine (isStar_q k2 _ _ _ _ _ _ _ _ _ HS2.out).mono ?_); rintro e w3 ⟨rfl, hb⟩; have HT := Lib.hid (HT.out.below hb); clear hb; have p0 := HT.out.a.c 0; have p1 := HT.out.a.c 1; have p2 := HT.out.a.c 2; have p3 := HT.out.a.c 3; have p4 := HT.out.a.c 4; have p5 := HT.out.a.c 5; have q0 := HT.out.b.c 0; have q1 := HT.out.b.c 1; have q2 := HT.out.b.c 2; have q3 := HT.out.b.c 3; have q4 := HT.out.b.c 4; have q5 := HT.out.b.c 5; simp only [List.getElem?_toArray, List.getElem?_cons_zero, List.getElem?_cons_succ] at p0 p1 p2 p3 p4 p5 q0 q1 q2 q3 q4 q5)
      | (go_at_call 82; go_must (refine (isBlank_q _ _ _ HBl.out).mono ?_); rintro e w3 ⟨rfl, hw3⟩; obtain rfl := hw3.symm))
    go_ret
    exact ⟨rfl, HT.out.bel⟩
  · have hvf : v = true := HV.out.symm
    subst hvf
    clear HV
    go_enter Tryd.func104, Tryd.ntmps104
    go_wp2_with fail
    have p0 := HT.out.a.c 0
    have p1 := HT.out.a.c 1
    have p2 := HT.out.a.c 2
    have p3 := HT.out.a.c 3
    have p4 := HT.out.a.c 4
    have p5 := HT.out.a.c 5
    have q0 := HT.out.b.c 0
    have q1 := HT.out.b.c 1
    have q2 := HT.out.b.c 2
    have q3 := HT.out.b.c 3
    have q4 := HT.out.b.c 4
    have q5 := HT.out.b.c 5
    simp only [List.getElem?_toArray, List.getElem?_cons_zero, List.getElem?_cons_succ] at p0 p1 p2 p3 p4 p5 q0 q1 q2 q3 q4 q5
    go_wp2_with (first
      | (go_at_call_of 81 k1; go_must (refine (isBreak_q k1 _ _ _ _ _ _ _ _ _ HK1.out).mono ?_); rintro e w3 ⟨rfl, hb⟩; have HT := Lib.hid (HT.out.below hb); clear hb; have p0 := HT.out.a.c 0; have p1 := HT.out.a.c 1; have p2 := HT.out.a.c 2; have p3 := HT.out.a.c 3; have p4 := HT.out.a.c 4; have p5 := HT.out.a.c 5; have q0 := HT.out.b.c 0; have q1 := HT.out.b.c 1; have q2 := HT.out.b.c 2; have q3 := HT.out.b.c 3; have q4 := HT.out.b.c 4; have q5 := HT.out.b.c 5; simp only [List.getElem?_toArray, List.getElem?_cons_zero, List.getElem?_cons_succ] at p0 p1 p2 p3 p4 p5 q0 q1 q2 q3 q4 q5)
      | (go_at_call_of 81 k2; go_must (refine (isBreak_q k2 _ _ _ _ _ _ _ _ _ HK2.out).mono ?_); rintro e w3 ⟨rfl, hb⟩; have HT := Lib.hid (HT.out.below hb); clear hb; have p0 := HT.out.a.c 0; have p1 := HT.out.a.c 1; have p2 := HT.out.a.c 2; have p3 := HT.out.a.c 3; have p4 := HT.out.a.c 4; have p5 := HT.out.a.c 5; have q0 := HT.out.b.c 0; have q1 := HT.out.b.c 1; have q2 := HT.out.b.c 2; have q3 := HT.out.b.c 3; have q4 := HT.out.b.c 4; have q5 := HT.out.b.c 5; simp only [List.getElem?_toArray, List.getElem?_cons_zero, List.getElem?_cons_succ] at p0 p1 p2 p3 p4 p5 q0 q1 q2 q3 q4 q5)
      | (go_at_call_of 123 k1; go_must (refine (isStar_q k1 _ _ _ _ _ _ _ _ _ HS1.out).mono ?_); rintro e w3 ⟨rfl, hb⟩; have HT := Lib.hid (HT.out.below hb); clear hb; have p0 := HT.out.a.c 0; have p1 := HT.out.a.c 1; have p2 := HT.out.a.c 2; have p3 := HT.out.a.c 3; have p4 := HT.out.a.c 4; have p5 := HT.out.a.c 5; have q0 := HT.out.b.c 0; have q1 := HT.out.b.c 1; have q2 := HT.out.b.c 2; have q3 := HT.out.b.c 3; have q4 := HT.out.b.c 4; have q5 := HT.out.b.c 5; simp only [List.getElem?_toArray, List.getElem?_cons_zero, List.getElem?_cons_succ] at p0 p1 p2 p3 p4 p5 q0 q1 q2 q3 q4 q5)
      | (go_at_call_of 123 k2; go_must (refine (isStar_q k2 _ _ _ _ _ _ _ _ _ HS2.out).mono ?_); rintro e w3 ⟨rfl, hb⟩; have HT := Lib.hid (HT.out.below hb); clear hb; have p0 := HT.out.a.c 0; have p1 := HT.out.a.c 1; have p2 := HT.out.a.c 2; have p3 := HT.out.a.c 3; have p4 := HT.out.a.c 4; have p5 := HT.out.a.c 5; have q0 := HT.out.b.c 0; have q1 := HT.out.b.c 1; have q2 := HT.out.b.c 2; have q3 := HT.out.b.c 3; have q4 := HT.out.b.c 4; have q5 := HT.out.b.c 5; simp only [List.getElem?_toArray, List.getElem?_cons_zero, List.getElem?_cons_succ] at p0 p1 p2 p3 p4 p5 q0 q1 q2 q3 q4 q5)
      | (go_at_call 82; go_must (refine (isBlank_q _ _ _ HBl.out).mono ?_); rintro e w3 ⟨rfl, hw3⟩; obtain rfl := hw3.symm))
    go_ret
    exact ⟨rfl, HT.out.bel⟩
  · have hvf : v = true := HV.out.symm
    subst hvf
    clear HV
    go_enter Tryd.func104, Tryd.ntmps104
    go_wp2_with fail
    have p0 := HT.out.a.c 0
    have p1 := HT.out.a.c 1
    have p2 := HT.out.a.c 2
    have p3 := HT.out.a.c 3
    have p4 := HT.out.a.c 4
    have p5 := HT.out.a.c 5
    have q0 := HT.out.b.c 0
    have q1 := HT.out.b.c 1
    have q2 := HT.out.b.c 2
    have q3 := HT.out.b.c 3
    have q4 := HT.out.b.c 4
    have q5 := HT.out.b.c 5
    simp only [List.getElem?_toArray, List.getElem?_cons_zero, List.getElem?_cons_succ] at p0 p1 p2 p3 p4 p5 q0 q1 q2 q3 q4 q5
    go_wp2_with (first
      | (go_at_call_of 81 k1; go_must (refine (isBreak_q k1 _ _ _ _ _ _ _ _ _ HK1.out).mono ?_); rintro e w3 ⟨rfl, hb⟩; have HT := Lib.hid (HT.out.below hb); clear hb; have p0 := HT.out.a.c 0; have p1 := HT.out.a.c 1; have p2 := HT.out.a.c 2; have p3 := HT.out.a.c 3; have p4 := HT.out.a.c 4; have p5 := HT.out.a.c 5; have q0 := HT.out.b.c 0; have q1 := HT.out.b.c 1; have q2 := HT.out.b.c 2; have q3 := HT.out.b.c 3; have q4 := HT.out.b.c 4; have q5 := HT.out.b.c 5; simp only [List.getElem?_toArray, List.getElem?_cons_zero, List.getElem?_cons_succ] at p0 p1 p2 p3 p4 p5 q0 q1 q2 q3 q4 q5)
      | (go_at_call_of 81 k2; go_must (refine (isBreak_q k2 _ _ _ _ _ _ _ _ _ HK2.out).mono ?_); rintro e w3 ⟨rfl, hb⟩; have HT := Lib.hid (HT.out.below hb); clear hb; have p0 := HT.out.a.c 0; have p1 := HT.out.a.c 1; have p2 := HT.out.a.c 2; have p3 := HT.out.a.c 3; have p4 := HT.out.a.c 4; have p5 := HT.out.a.c 5; have q0 := HT.out.b.c 0; have q1 := HT.out.b.c 1; have q2 := HT.out.b.c 2; have q3 := HT.out.b.c 3; have q4 := HT.out.b.c 4; have q5 := HT.out.b.c 5; simp only [List.getElem?_toArray, List.getElem?_cons_zero, List.getElem?_cons_succ] at p0 p1 p2 p3 p4 p5 q0 q1 q2 q3 q4 q5)
      | (go_at_call_of 123 k1; go_must (refine (isStar_q k1 _ _ _ _ _ _ _ _ _ HS1.out).mono ?_); rintro e w3 ⟨rfl, hb⟩; have HT := Lib.hid (HT.out.below hb); clear hb; have p0 := HT.out.a.c 0; have p1 := HT.out.a.c 1; have p2 := HT.out.a.c 2; have p3 := HT.out.a.c 3; have p4 := HT.out.a.c 4; have p5 := HT.out.a.c 5; have q0 := HT.out.b.c 0; have q1 := HT.out.b.c 1; have q2 := HT.out.b.c 2; have q3 := HT.out.b.c 3; have q4 := HT.out.b.c 4; have q5 := HT.out.b.c 5; simp only [List.getElem?_toArray, List.getElem?_cons_zero, List.getElem?_cons_succ] at p0 p1 p2 p3 p4 p5 q0 q1 q2 q3 q4 q5)
      | (go_at_call_of 123 k2; go_must (refine (isStar_q k2 _ _ _ _ _ _ _ _ _ HS2.out).mono ?_); rintro e w3 ⟨rfl, hb⟩; have HT := Lib.hid (HT.out.below hb); clear hb; have p0 := HT.out.a.c 0; have p1 := HT.out.a.c 1; have p2 := HT.out.a.c 2; have p3 := HT.out.a.c 3; have p4 := HT.out.a.c 4; have p5 := HT.out.a.c 5; have q0 := HT.out.b.c 0; have q1 := HT.out.b.c 1; have q2 := HT.out.b.c 2; have q3 := HT.out.b.c 3; have q4 := HT.out.b.c 4; have q5 := HT.out.b.c 5; simp only [List.getElem?_toArray, List.getElem?_cons_zero, List.getElem?_cons_succ] at p0 p1 p2 p3 p4 p5 q0 q1 q2 q3 q4 q5)
      | (go_at_call 82; go_must (refine (isBlank_q _ _ _ HBl.out).mono ?_); rintro e w3 ⟨rfl, hw3⟩; obtain rfl := hw3.symm))
    go_ret
    exact ⟨rfl, HT.out.bel⟩
  · have hvf : v = true := HV.out.symm
    subst hvf
    clear HV
    go_enter Tryd.func104, Tryd.ntmps104
    go_wp2_with fail
    have p0 := HT.out.a.c 0
    have p1 := HT.out.a.c 1
    have p2 := HT.out.a.c 2
    have p3 := HT.out.a.c 3
    have p4 := HT.out.a.c 4
    have p5 := HT.out.a.c 5
    have q0 := HT.out.b.c 0
    have q1 := HT.out.b.c 1
    have q2 := HT.out.b.c 2
    have q3 := HT.out.b.c 3
    have q4 := HT.out.b.c 4
    have q5 := HT.out.b.c 5
    simp only [List.getElem?_toArray, List.getElem?_cons_zero, List.getElem?_cons_succ] at p0 p1 p2 p3 p4 p5 q0 q1 q2 q3 q4 q5
    go_wp2_with (first
      | (go_at_call_of 81 k1; go_must (refine (isBreak_q k1 _ _ _ _ _ _ _ _ _ HK1.out).mono ?_); rintro e w3 ⟨rfl, hb⟩; have HT := Lib.hid (HT.out.below hb); clear hb; have p0 := HT.out.a.c 0; have p1 := HT.out.a.c 1; have p2 := HT.out.a.c 2; have p3 := HT.out.a.c 3; have p4 := HT.out.a.c 4; have p5 := HT.out.a.c 5; have q0 := HT.out.b.c 0; have q1 := HT.out.b.c 1; have q2 := HT.out.b.c 2; have q3 := HT.out.b.c 3; have q4 := HT.out.b.c 4; have q5 := HT.out.b.c 5; simp only [List.getElem?_toArray, List.getElem?_cons_zero, List.getElem?_cons_succ] at p0 p1 p2 p3 p4 p5 q0 q1 q2 q3 q4 q5)
      | (go_at_call_of 81 k2; go_must (refine (isBreak_q k2 _ _ _ _ _ _ _ _ _ HK2.out).mono ?_); rintro e w3 ⟨rfl, hb⟩; have HT := Lib.hid (HT.out.below hb); clear hb; have p0 := HT.out.a.c 0; have p1 := HT.out.a.c 1; have p2 := HT.out.a.c 2; have p3 := HT.out.a.c 3; have p4 := HT.out.a.c 4; have p5 := HT.out.a.c 5; have q0 := HT.out.b.c 0; have q1 := HT.out.b.c 1; have q2 := HT.out.b.c 2; have q3 := HT.out.b.c 3; have q4 := HT.out.b.c 4; have q5 := HT.out.b.c 5; simp only [List.getElem?_toArray, List.getElem?_cons_zero, List.getElem?_cons_succ] at p0 p1 p2 p3 p4 p5 q0 q1 q2 q3 q4 q5)
      | (go_at_call_of 123 k1; go_must (refine (isStar_q k1 _ _ _ _ _ _ _ _ _ HS1.out).mono ?_); rintro e w3 ⟨rfl, hb⟩; have HT := Lib.hid (HT.out.below hb); clear hb; have p0 := HT.out.a.c 0; have p1 := HT.out.a.c 1; have p2 := HT.out.a.c 2; have p3 := HT.out.a.c 3; have p4 := HT.out.a.c 4; have p5 := HT.out.a.c 5; have q0 := HT.out.b.c 0; have q1 := HT.out.b.c 1; have q2 := HT.out.b.c 2; have q3 := HT.out.b.c 3; have q4 := HT.out.b.c 4; have q5 := HT.out.b.c 5; simp only [List.getElem?_toArray, List.getElem?_cons_zero, List.getElem?_cons_succ] at p0 p1 p2 p3 p4 p5 q0 q1 q2 q3 q4 q5)
      | (go_at_call_of 123 k2; go_must (refine (isStar_q k2 _ _ _ _ _ _ _ _ _ HS2.out).mono ?_); rintro e w3 ⟨rfl, hb⟩; have HT := Lib.hid (HT.out.below hb); clear hb; have p0 := HT.out.a.c 0; have p1 := HT.out.a.c 1; have p2 := HT.out.a.c 2; have p3 := HT.out.a.c 3; have p4 := HT.out.a.c 4; have p5 := HT.out.a.c 5; have q0 := HT.out.b.c 0; have q1 := HT.out.b.c 1; have q2 := HT.out.b.c 2; have q3 := HT.out.b.c 3; have q4 := HT.out.b.c 4; have q5 := HT.out.b.c 5; simp only [List.getElem?_toArray, List.getElem?_cons_zero, List.getElem?_cons_succ] at p0 p1 p2 p3 p4 p5 q0 q1 q2 q3 q4 q5)
      | (go_at_call 82; go_must (refine (isBlank_q _ _ _ HBl.out).mono ?_); rintro e w3 ⟨rfl, hw3⟩; obtain rfl := hw3.symm))
    go_ret
    exact ⟨rfl, HT.out.bel⟩

set_option maxRecDepth 100000 in
set_option maxHeartbeats 16000000 in
theorem goodPair_r (k1 l1 k2 l2 : Int) (x1 d1 t1 x2 d2 t2 : ByteArray) (A1 A2 : Option Addr) (n1 c1 n2 c2 : Nat) (v : Bool) (w : World) (hv : pairK k1 k2 x1 x2 = v) (hs1 : x1.size ≤ 1073741824) (hs2 : x2.size ≤ 1073741824) : Calls Tryd.prog 87 #[.agg #[.int .i64 k1, .int .i64 l1, .string x1, .string d1, .string t1, .slice A1 n1 c1], .agg #[.int .i64 k2, .int .i64 l2, .string x2, .string d2, .string t2, .slice A2 n2 c2]] w fun e w' => e = .returned (.bool v) ∧ Below w.heap.size w w' := by
  have HT := Lib.hid (show Two w.heap.size (w.heap.size + 1) #[.int .i64 k1, .int .i64 l1, .string x1, .string d1, .string t1, .slice A1 n1 c1] #[.int .i64 k2, .int .i64 l2, .string x2, .string d2, .string t2, .slice A2 n2 c2] w ((w.alloc (.cells #[.int .i64 k1, .int .i64 l1, .string x1, .string d1, .string t1, .slice A1 n1 c1] 31)).alloc (.cells #[.int .i64 k2, .int .i64 l2, .string x2, .string d2, .string t2, .slice A2 n2 c2] 31)) from
    ⟨(CB.new w #[.int .i64 k1, .int .i64 l1, .string x1, .string d1, .string t1, .slice A1 n1 c1] 31).alloc _, by have := CB.new (w.alloc (.cells #[.int .i64 k1, .int .i64 l1, .string x1, .string d1, .string t1, .slice A1 n1 c1] 31)) #[.int .i64 k2, .int .i64 l2, .string x2, .string d2, .string t2, .slice A2 n2 c2] 31; rwa [World.size_alloc] at this, ((Below.refl _ _).alloc (Nat.le_refl _) _).alloc (by simp) _⟩)
  obtain ⟨a1, ha1⟩ : ∃ b, (k1 == 11) = b := ⟨_, rfl⟩
  obtain ⟨a2, ha2⟩ : ∃ b, (k2 == 11) = b := ⟨_, rfl⟩
  obtain ⟨b1, hb1⟩ : ∃ b, brk k1 = b := ⟨_, rfl⟩
  obtain ⟨b2, hb2⟩ : ∃ b, brk k2 = b := ⟨_, rfl⟩
  obtain ⟨s1, hs1'⟩ : ∃ b, star k1 = b := ⟨_, rfl⟩
  obtain ⟨s2, hs2'⟩ : ∃ b, star k2 = b := ⟨_, rfl⟩
  have hex1 : (a1, b1, s1) = (true, false, false) ∨ (a1, b1, s1) = (false, true, false) ∨ (a1, b1, s1) = (false, false, true) ∨ (a1, b1, s1) = (false, false, false) := by
    rw [← ha1, ← hb1, ← hs1']
    rcases kind_class k1 with ⟨h, h2, h3⟩ | ⟨h, h2, h3⟩ | ⟨h, h2, h3⟩ | ⟨h, h2, h3⟩ <;> simp [h, h2, h3]
    all_goals (subst h; simp_all)
  have hex2 : (a2, b2, s2) = (true, false, false) ∨ (a2, b2, s2) = (false, true, false) ∨ (a2, b2, s2) = (false, false, true) ∨ (a2, b2, s2) = (false, false, false) := by
    rw [← ha2, ← hb2, ← hs2']
    rcases kind_class k2 with ⟨h, h2, h3⟩ | ⟨h, h2, h3⟩ | ⟨h, h2, h3⟩ | ⟨h, h2, h3⟩ <;> simp [h, h2, h3]
    all_goals (subst h; simp_all)
  have HV := Lib.hid (show (if (a1 && a2) || (b1 && b2) || (s1 && s2) then false else if a1 && b2 then !ltB x1.data.toList else if b1 && a2 then !hdB x2.data.toList else true) = v by rw [← hv, ← ha1, ← ha2, ← hb1, ← hb2, ← hs1', ← hs2']; rfl)
  have HK1 := Lib.hid hb1
  have HK2 := Lib.hid hb2
  have HS1 := Lib.hid hs1'
  have HS2 := Lib.hid hs2'
  clear hv hb1 hb2 hs1' hs2'
  rcases hex1 with h | h | h | h <;> (simp only [Prod.mk.injEq] at h; obtain ⟨rfl, rfl, rfl⟩ := h) <;> (rcases hex2 with h | h | h | h <;> (simp only [Prod.mk.injEq] at h; obtain ⟨rfl, rfl, rfl⟩ := h))
  · have hvf : v = false := HV.out.symm
    subst hvf
    clear HV
    obtain ⟨u1, hu1⟩ : ∃ u, ltB x1.data.toList = u := ⟨_, rfl⟩
    have HL1 := Lib.hid hu1
    clear hu1
    obtain ⟨u2, hu2⟩ : ∃ u, hdB x2.data.toList = u := ⟨_, rfl⟩
    have HH2 := Lib.hid hu2
    clear hu2
    go_enter Tryd.func87, Tryd.ntmps87
    go_wp2_with (first
      | (go_at_call_of 59 x1; go_must (refine (blankEnds_r x1 _ _ _ rfl HL1.out hs1).mono ?_); rintro e w3 ⟨rfl, hw3⟩; obtain rfl := hw3.symm)
      | (go_at_call_of 59 x2; go_must (refine (blankEnds_r x2 _ _ _ HH2.out rfl hs2).mono ?_); rintro e w3 ⟨rfl, hw3⟩; obtain rfl := hw3.symm)
      | (go_at_call_of 85 k1; go_must (refine (ended_r k1 _ _ HK1.out).mono ?_); rintro e w3 ⟨rfl, hw3⟩; obtain rfl := hw3.symm)
      | (go_at_call_of 85 k2; go_must (refine (ended_r k2 _ _ HK2.out).mono ?_); rintro e w3 ⟨rfl, hw3⟩; obtain rfl := hw3.symm)
      | (go_at_call_of 86 k1; go_must (refine (starred_r k1 _ _ HS1.out).mono ?_); rintro e w3 ⟨rfl, hw3⟩; obtain rfl := hw3.symm)
      | (go_at_call_of 86 k2; go_must (refine (starred_r k2 _ _ HS2.out).mono ?_); rintro e w3 ⟨rfl, hw3⟩; obtain rfl := hw3.symm))
    go_ret
    exact ⟨rfl, HT.out.bel⟩
  · cases hq : ltB x1.data.toList with
    | true =>
      have hvf : v = false := by rw [← HV.out, hq]; rfl
      subst hvf
      have HL1 := Lib.hid hq
      obtain ⟨u2, hu2⟩ : ∃ u, hdB x2.data.toList = u := ⟨_, rfl⟩
      have HH2 := Lib.hid hu2
      clear hu2
      clear hq HV
      go_enter Tryd.func87, Tryd.ntmps87
      go_wp2_with fail
      have p0 := HT.out.a.c 0
      have p1 := HT.out.a.c 1
      have p2 := HT.out.a.c 2
      have p3 := HT.out.a.c 3
      have p4 := HT.out.a.c 4
      have p5 := HT.out.a.c 5
      have q0 := HT.out.b.c 0
      have q1 := HT.out.b.c 1
      have q2 := HT.out.b.c 2
      have q3 := HT.out.b.c 3
      have q4 := HT.out.b.c 4
      have q5 := HT.out.b.c 5
      simp only [List.getElem?_toArray, List.getElem?_cons_zero, List.getElem?_cons_succ] at p0 p1 p2 p3 p4 p5 q0 q1 q2 q3 q4 q5
      go_wp2_with (first
        | (go_at_call_of 59 x1; go_must (refine (blankEnds_r x1 _ _ _ rfl HL1.out hs1).mono ?_); rintro e w3 ⟨rfl, hw3⟩; obtain rfl := hw3.symm)
        | (go_at_call_of 59 x2; go_must (refine (blankEnds_r x2 _ _ _ HH2.out rfl hs2).mono ?_); rintro e w3 ⟨rfl, hw3⟩; obtain rfl := hw3.symm)
        | (go_at_call_of 85 k1; go_must (refine (ended_r k1 _ _ HK1.out).mono ?_); rintro e w3 ⟨rfl, hw3⟩; obtain rfl := hw3.symm)
        | (go_at_call_of 85 k2; go_must (refine (ended_r k2 _ _ HK2.out).mono ?_); rintro e w3 ⟨rfl, hw3⟩; obtain rfl := hw3.symm)
        | (go_at_call_of 86 k1; go_must (refine (starred_r k1 _ _ HS1.out).mono ?_); rintro e w3 ⟨rfl, hw3⟩; obtain rfl := hw3.symm)
        | (go_at_call_of 86 k2; go_must (refine (starred_r k2 _ _ HS2.out).mono ?_); rintro e w3 ⟨rfl, hw3⟩; obtain rfl := hw3.symm))
      go_ret
      exact ⟨rfl, HT.out.bel⟩
    | false =>
      have hvf : v = true := by rw [← HV.out, hq]; rfl
      subst hvf
      have HL1 := Lib.hid hq
      obtain ⟨u2, hu2⟩ : ∃ u, hdB x2.data.toList = u := ⟨_, rfl⟩
      have HH2 := Lib.hid hu2
      clear hu2
      clear hq HV
      go_enter Tryd.func87, Tryd.ntmps87
      go_wp2_with fail
      have p0 := HT.out.a.c 0
      have p1 := HT.out.a.c 1
      have p2 := HT.out.a.c 2
      have p3 := HT.out.a.c 3
      have p4 := HT.out.a.c 4
      have p5 := HT.out.a.c 5
      have q0 := HT.out.b.c 0
      have q1 := HT.out.b.c 1
      have q2 := HT.out.b.c 2
      have q3 := HT.out.b.c 3
      have q4 := HT.out.b.c 4
      have q5 := HT.out.b.c 5
      simp only [List.getElem?_toArray, List.getElem?_cons_zero, List.getElem?_cons_succ] at p0 p1 p2 p3 p4 p5 q0 q1 q2 q3 q4 q5
      go_wp2_with (first
        | (go_at_call_of 59 x1; go_must (refine (blankEnds_r x1 _ _ _ rfl HL1.out hs1).mono ?_); rintro e w3 ⟨rfl, hw3⟩; obtain rfl := hw3.symm)
        | (go_at_call_of 59 x2; go_must (refine (blankEnds_r x2 _ _ _ HH2.out rfl hs2).mono ?_); rintro e w3 ⟨rfl, hw3⟩; obtain rfl := hw3.symm)
        | (go_at_call_of 85 k1; go_must (refine (ended_r k1 _ _ HK1.out).mono ?_); rintro e w3 ⟨rfl, hw3⟩; obtain rfl := hw3.symm)
        | (go_at_call_of 85 k2; go_must (refine (ended_r k2 _ _ HK2.out).mono ?_); rintro e w3 ⟨rfl, hw3⟩; obtain rfl := hw3.symm)
        | (go_at_call_of 86 k1; go_must (refine (starred_r k1 _ _ HS1.out).mono ?_); rintro e w3 ⟨rfl, hw3⟩; obtain rfl := hw3.symm)
        | (go_at_call_of 86 k2; go_must (refine (starred_r k2 _ _ HS2.out).mono ?_); rintro e w3 ⟨rfl, hw3⟩; obtain rfl := hw3.symm))
      go_ret
      exact ⟨rfl, HT.out.bel⟩
  · have hvf : v = true := HV.out.symm
    subst hvf
    clear HV
    obtain ⟨u1, hu1⟩ : ∃ u, ltB x1.data.toList = u := ⟨_, rfl⟩
    have HL1 := Lib.hid hu1
    clear hu1
    obtain ⟨u2, hu2⟩ : ∃ u, hdB x2.data.toList = u := ⟨_, rfl⟩
    have HH2 := Lib.hid hu2
    clear hu2
    go_enter Tryd.func87, Tryd.ntmps87
    go_wp2_with (first
      | (go_at_call_of 59 x1; go_must (refine (blankEnds_r x1 _ _ _ rfl HL1.out hs1).mono ?_); rintro e w3 ⟨rfl, hw3⟩; obtain rfl := hw3.symm)
      | (go_at_call_of 59 x2; go_must (refine (blankEnds_r x2 _ _ _ HH2.out rfl hs2).mono ?_); rintro e w3 ⟨rfl, hw3⟩; obtain rfl := hw3.symm)
      | (go_at_call_of 85 k1; go_must (refine (ended_r k1 _ _ HK1.out).mono ?_); rintro e w3 ⟨rfl, hw3⟩; obtain rfl := hw3.symm)
      | (go_at_call_of 85 k2; go_must (refine (ended_r k2 _ _ HK2.out).mono ?_); rintro e w3 ⟨rfl, hw3⟩; obtain rfl := hw3.symm)
      | (go_at_call_of 86 k1; go_must (refine (starred_r k1 _ _ HS1.out).mono ?_); rintro e w3 ⟨rfl, hw3⟩; obtain rfl := hw3.symm)
      | (go_at_call_of 86 k2; go_must (refine (starred_r k2 _ _ HS2.out).mono ?_); rintro e w3 ⟨rfl, hw3⟩; obtain rfl := hw3.symm))
    go_ret
    exact ⟨rfl, HT.out.bel⟩
  · have hvf : v = true := HV.out.symm
    subst hvf
    clear HV
    obtain ⟨u1, hu1⟩ : ∃ u, ltB x1.data.toList = u := ⟨_, rfl⟩
    have HL1 := Lib.hid hu1
    clear hu1
    obtain ⟨u2, hu2⟩ : ∃ u, hdB x2.data.toList = u := ⟨_, rfl⟩
    have HH2 := Lib.hid hu2
    clear hu2
    go_enter Tryd.func87, Tryd.ntmps87
    go_wp2_with (first
      | (go_at_call_of 59 x1; go_must (refine (blankEnds_r x1 _ _ _ rfl HL1.out hs1).mono ?_); rintro e w3 ⟨rfl, hw3⟩; obtain rfl := hw3.symm)
      | (go_at_call_of 59 x2; go_must (refine (blankEnds_r x2 _ _ _ HH2.out rfl hs2).mono ?_); rintro e w3 ⟨rfl, hw3⟩; obtain rfl := hw3.symm)
      | (go_at_call_of 85 k1; go_must (refine (ended_r k1 _ _ HK1.out).mono ?_); rintro e w3 ⟨rfl, hw3⟩; obtain rfl := hw3.symm)
      | (go_at_call_of 85 k2; go_must (refine (ended_r k2 _ _ HK2.out).mono ?_); rintro e w3 ⟨rfl, hw3⟩; obtain rfl := hw3.symm)
      | (go_at_call_of 86 k1; go_must (refine (starred_r k1 _ _ HS1.out).mono ?_); rintro e w3 ⟨rfl, hw3⟩; obtain rfl := hw3.symm)
      | (go_at_call_of 86 k2; go_must (refine (starred_r k2 _ _ HS2.out).mono ?_); rintro e w3 ⟨rfl, hw3⟩; obtain rfl := hw3.symm))
    go_ret
    exact ⟨rfl, HT.out.bel⟩
  · cases hq : hdB x2.data.toList with
    | true =>
      have hvf : v = false := by rw [← HV.out, hq]; rfl
      subst hvf
      have HH2 := Lib.hid hq
      obtain ⟨u1, hu1⟩ : ∃ u, ltB x1.data.toList = u := ⟨_, rfl⟩
      have HL1 := Lib.hid hu1
      clear hu1
      clear hq HV
      go_enter Tryd.func87, Tryd.ntmps87
      go_wp2_with fail
      have p0 := HT.out.a.c 0
      have p1 := HT.out.a.c 1
      have p2 := HT.out.a.c 2
      have p3 := HT.out.a.c 3
      have p4 := HT.out.a.c 4
      have p5 := HT.out.a.c 5
      have q0 := HT.out.b.c 0
      have q1 := HT.out.b.c 1
      have q2 := HT.out.b.c 2
      have q3 := HT.out.b.c 3
      have q4 := HT.out.b.c 4
      have q5 := HT.out.b.c 5
      simp only [List.getElem?_toArray, List.getElem?_cons_zero, List.getElem?_cons_succ] at p0 p1 p2 p3 p4 p5 q0 q1 q2 q3 q4 q5
      go_wp2_with (first
        | (go_at_call_of 59 x1; go_must (refine (blankEnds_r x1 _ _ _ rfl HL1.out hs1).mono ?_); rintro e w3 ⟨rfl, hw3⟩; obtain rfl := hw3.symm)
        | (go_at_call_of 59 x2; go_must (refine (blankEnds_r x2 _ _ _ HH2.out rfl hs2).mono ?_); rintro e w3 ⟨rfl, hw3⟩; obtain rfl := hw3.symm)
        | (go_at_call_of 85 k1; go_must (refine (ended_r k1 _ _ HK1.out).mono ?_); rintro e w3 ⟨rfl, hw3⟩; obtain rfl := hw3.symm)
        | (go_at_call_of 85 k2; go_must (refine (ended_r k2 _ _ HK2.out).mono ?_); rintro e w3 ⟨rfl, hw3⟩; obtain rfl := hw3.symm)
        | (go_at_call_of 86 k1; go_must (refine (starred_r k1 _ _ HS1.out).mono ?_); rintro e w3 ⟨rfl, hw3⟩; obtain rfl := hw3.symm)
        | (go_at_call_of 86 k2; go_must (refine (starred_r k2 _ _ HS2.out).mono ?_); rintro e w3 ⟨rfl, hw3⟩; obtain rfl := hw3.symm))
      go_ret
      exact ⟨rfl, HT.out.bel⟩
    | false =>
      have hvf : v = true := by rw [← HV.out, hq]; rfl
      subst hvf
      have HH2 := Lib.hid hq
      obtain ⟨u1, hu1⟩ : ∃ u, ltB x1.data.toList = u := ⟨_, rfl⟩
      have HL1 := Lib.hid hu1
      clear hu1
      clear hq HV
      go_enter Tryd.func87, Tryd.ntmps87
      go_wp2_with fail
      have p0 := HT.out.a.c 0
      have p1 := HT.out.a.c 1
      have p2 := HT.out.a.c 2
      have p3 := HT.out.a.c 3
      have p4 := HT.out.a.c 4
      have p5 := HT.out.a.c 5
      have q0 := HT.out.b.c 0
      have q1 := HT.out.b.c 1
      have q2 := HT.out.b.c 2
      have q3 := HT.out.b.c 3
      have q4 := HT.out.b.c 4
      have q5 := HT.out.b.c 5
      simp only [List.getElem?_toArray, List.getElem?_cons_zero, List.getElem?_cons_succ] at p0 p1 p2 p3 p4 p5 q0 q1 q2 q3 q4 q5
      go_wp2_with (first
        | (go_at_call_of 59 x1; go_must (refine (blankEnds_r x1 _ _ _ rfl HL1.out hs1).mono ?_); rintro e w3 ⟨rfl, hw3⟩; obtain rfl := hw3.symm)
        | (go_at_call_of 59 x2; go_must (refine (blankEnds_r x2 _ _ _ HH2.out rfl hs2).mono ?_); rintro e w3 ⟨rfl, hw3⟩; obtain rfl := hw3.symm)
        | (go_at_call_of 85 k1; go_must (refine (ended_r k1 _ _ HK1.out).mono ?_); rintro e w3 ⟨rfl, hw3⟩; obtain rfl := hw3.symm)
        | (go_at_call_of 85 k2; go_must (refine (ended_r k2 _ _ HK2.out).mono ?_); rintro e w3 ⟨rfl, hw3⟩; obtain rfl := hw3.symm)
        | (go_at_call_of 86 k1; go_must (refine (starred_r k1 _ _ HS1.out).mono ?_); rintro e w3 ⟨rfl, hw3⟩; obtain rfl := hw3.symm)
        | (go_at_call_of 86 k2; go_must (refine (starred_r k2 _ _ HS2.out).mono ?_); rintro e w3 ⟨rfl, hw3⟩; obtain rfl := hw3.symm))
      go_ret
      exact ⟨rfl, HT.out.bel⟩
  · have hvf : v = false := HV.out.symm
    subst hvf
    clear HV
    obtain ⟨u1, hu1⟩ : ∃ u, ltB x1.data.toList = u := ⟨_, rfl⟩
    have HL1 := Lib.hid hu1
    clear hu1
    obtain ⟨u2, hu2⟩ : ∃ u, hdB x2.data.toList = u := ⟨_, rfl⟩
    have HH2 := Lib.hid hu2
    clear hu2
    go_enter Tryd.func87, Tryd.ntmps87
    go_wp2_with (first
      | (go_at_call_of 59 x1; go_must (refine (blankEnds_r x1 _ _ _ rfl HL1.out hs1).mono ?_); rintro e w3 ⟨rfl, hw3⟩; obtain rfl := hw3.symm)
      | (go_at_call_of 59 x2; go_must (refine (blankEnds_r x2 _ _ _ HH2.out rfl hs2).mono ?_); rintro e w3 ⟨rfl, hw3⟩; obtain rfl := hw3.symm)
      | (go_at_call_of 85 k1; go_must (refine (ended_r k1 _ _ HK1.out).mono ?_); rintro e w3 ⟨rfl, hw3⟩; obtain rfl := hw3.symm)
      | (go_at_call_of 85 k2; go_must (refine (ended_r k2 _ _ HK2.out).mono ?_); rintro e w3 ⟨rfl, hw3⟩; obtain rfl := hw3.symm)
      | (go_at_call_of 86 k1; go_must (refine (starred_r k1 _ _ HS1.out).mono ?_); rintro e w3 ⟨rfl, hw3⟩; obtain rfl := hw3.symm)
      | (go_at_call_of 86 k2; go_must (refine (starred_r k2 _ _ HS2.out).mono ?_); rintro e w3 ⟨rfl, hw3⟩; obtain rfl := hw3.symm))
    go_ret
    exact ⟨rfl, HT.out.bel⟩
  · have hvf : v = true := HV.out.symm
    subst hvf
    clear HV
    obtain ⟨u1, hu1⟩ : ∃ u, ltB x1.data.toList = u := ⟨_, rfl⟩
    have HL1 := Lib.hid hu1
    clear hu1
    obtain ⟨u2, hu2⟩ : ∃ u, hdB x2.data.toList = u := ⟨_, rfl⟩
    have HH2 := Lib.hid hu2
    clear hu2
    go_enter Tryd.func87, Tryd.ntmps87
    go_wp2_with (first
      | (go_at_call_of 59 x1; go_must (refine (blankEnds_r x1 _ _ _ rfl HL1.out hs1).mono ?_); rintro e w3 ⟨rfl, hw3⟩; obtain rfl := hw3.symm)
      | (go_at_call_of 59 x2; go_must (refine (blankEnds_r x2 _ _ _ HH2.out rfl hs2).mono ?_); rintro e w3 ⟨rfl, hw3⟩; obtain rfl := hw3.symm)
      | (go_at_call_of 85 k1; go_must (refine (ended_r k1 _ _ HK1.out).mono ?_); rintro e w3 ⟨rfl, hw3⟩; obtain rfl := hw3.symm)
      | (go_at_call_of 85 k2; go_must (refine (ended_r k2 _ _ HK2.out).mono ?_); rintro e w3 ⟨rfl, hw3⟩; obtain rfl := hw3.symm)
      | (go_at_call_of 86 k1; go_must (refine (starred_r k1 _ _ HS1.out).mono ?_); rintro e w3 ⟨rfl, hw3⟩; obtain rfl := hw3.symm)
      | (go_at_call_of 86 k2; go_must (refine (starred_r k2 _ _ HS2.out).mono ?_); rintro e w3 ⟨rfl, hw3⟩; obtain rfl := hw3.symm))
    go_ret
    exact ⟨rfl, HT.out.bel⟩
  · have hvf : v = true := HV.out.symm
    subst hvf
    clear HV
    obtain ⟨u1, hu1⟩ : ∃ u, ltB x1.data.toList = u := ⟨_, rfl⟩
    have HL1 := Lib.hid hu1
    clear hu1
    obtain ⟨u2, hu2⟩ : ∃ u, hdB x2.data.toList = u := ⟨_, rfl⟩
    have HH2 := Lib.hid hu2
    clear hu2
    go_enter Tryd.func87, Tryd.ntmps87
    go_wp2_with (first
      | (go_at_call_of 59 x1; go_must (refine (blankEnds_r x1 _ _ _ rfl HL1.out hs1).mono ?_); rintro e w3 ⟨rfl, hw3⟩; obtain rfl := hw3.symm)
      | (go_at_call_of 59 x2; go_must (refine (blankEnds_r x2 _ _ _ HH2.out rfl hs2).mono ?_); rintro e w3 ⟨rfl, hw3⟩; obtain rfl := hw3.symm)
      | (go_at_call_of 85 k1; go_must (refine (ended_r k1 _ _ HK1.out).mono ?_); rintro e w3 ⟨rfl, hw3⟩; obtain rfl := hw3.symm)
      | (go_at_call_of 85 k2; go_must (refine (ended_r k2 _ _ HK2.out).mono ?_); rintro e w3 ⟨rfl, hw3⟩; obtain rfl := hw3.symm)
      | (go_at_call_of 86 k1; go_must (refine (starred_r k1 _ _ HS1.out).mono ?_); rintro e w3 ⟨rfl, hw3⟩; obtain rfl := hw3.symm)
      | (go_at_call_of 86 k2; go_must (refine (starred_r k2 _ _ HS2.out).mono ?_); rintro e w3 ⟨rfl, hw3⟩; obtain rfl := hw3.symm))
    go_ret
    exact ⟨rfl, HT.out.bel⟩
  · have hvf : v = true := HV.out.symm
    subst hvf
    clear HV
    obtain ⟨u1, hu1⟩ : ∃ u, ltB x1.data.toList = u := ⟨_, rfl⟩
    have HL1 := Lib.hid hu1
    clear hu1
    obtain ⟨u2, hu2⟩ : ∃ u, hdB x2.data.toList = u := ⟨_, rfl⟩
    have HH2 := Lib.hid hu2
    clear hu2
    go_enter Tryd.func87, Tryd.ntmps87
    go_wp2_with (first
      | (go_at_call_of 59 x1; go_must (refine (blankEnds_r x1 _ _ _ rfl HL1.out hs1).mono ?_); rintro e w3 ⟨rfl, hw3⟩; obtain rfl := hw3.symm)
      | (go_at_call_of 59 x2; go_must (refine (blankEnds_r x2 _ _ _ HH2.out rfl hs2).mono ?_); rintro e w3 ⟨rfl, hw3⟩; obtain rfl := hw3.symm)
      | (go_at_call_of 85 k1; go_must (refine (ended_r k1 _ _ HK1.out).mono ?_); rintro e w3 ⟨rfl, hw3⟩; obtain rfl := hw3.symm)
      | (go_at_call_of 85 k2; go_must (refine (ended_r k2 _ _ HK2.out).mono ?_); rintro e w3 ⟨rfl, hw3⟩; obtain rfl := hw3.symm)
      | (go_at_call_of 86 k1; go_must (refine (starred_r k1 _ _ HS1.out).mono ?_); rintro e w3 ⟨rfl, hw3⟩; obtain rfl := hw3.symm)
      | (go_at_call_of 86 k2; go_must (refine (starred_r k2 _ _ HS2.out).mono ?_); rintro e w3 ⟨rfl, hw3⟩; obtain rfl := hw3.symm))
    go_ret
    exact ⟨rfl, HT.out.bel⟩
  · have hvf : v = true := HV.out.symm
    subst hvf
    clear HV
    obtain ⟨u1, hu1⟩ : ∃ u, ltB x1.data.toList = u := ⟨_, rfl⟩
    have HL1 := Lib.hid hu1
    clear hu1
    obtain ⟨u2, hu2⟩ : ∃ u, hdB x2.data.toList = u := ⟨_, rfl⟩
    have HH2 := Lib.hid hu2
    clear hu2
    go_enter Tryd.func87, Tryd.ntmps87
    go_wp2_with (first
      | (go_at_call_of 59 x1; go_must (refine (blankEnds_r x1 _ _ _ rfl HL1.out hs1).mono ?_); rintro e w3 ⟨rfl, hw3⟩; obtain rfl := hw3.symm)
      | (go_at_call_of 59 x2; go_must (refine (blankEnds_r x2 _ _ _ HH2.out rfl hs2).mono ?_); rintro e w3 ⟨rfl, hw3⟩; obtain rfl := hw3.symm)
      | (go_at_call_of 85 k1; go_must (refine (ended_r k1 _ _ HK1.out).mono ?_); rintro e w3 ⟨rfl, hw3⟩; obtain rfl := hw3.symm)
      | (go_at_call_of 85 k2; go_must (refine (ended_r k2 _ _ HK2.out).mono ?_); rintro e w3 ⟨rfl, hw3⟩; obtain rfl := hw3.symm)
      | (go_at_call_of 86 k1; go_must (refine (starred_r k1 _ _ HS1.out).mono ?_); rintro e w3 ⟨rfl, hw3⟩; obtain rfl := hw3.symm)
      | (go_at_call_of 86 k2; go_must (refine (starred_r k2 _ _ HS2.out).mono ?_); rintro e w3 ⟨rfl, hw3⟩; obtain rfl := hw3.symm))
    go_ret
    exact ⟨rfl, HT.out.bel⟩
  · have hvf : v = false := HV.out.symm
    subst hvf
    clear HV
    obtain ⟨u1, hu1⟩ : ∃ u, ltB x1.data.toList = u := ⟨_, rfl⟩
    have HL1 := Lib.hid hu1
    clear hu1
    obtain ⟨u2, hu2⟩ : ∃ u, hdB x2.data.toList = u := ⟨_, rfl⟩
    have HH2 := Lib.hid hu2
    clear hu2
    go_enter Tryd.func87, Tryd.ntmps87
    go_wp2_with (first
      | (go_at_call_of 59 x1; go_must (refine (blankEnds_r x1 _ _ _ rfl HL1.out hs1).mono ?_); rintro e w3 ⟨rfl, hw3⟩; obtain rfl := hw3.symm)
      | (go_at_call_of 59 x2; go_must (refine (blankEnds_r x2 _ _ _ HH2.out rfl hs2).mono ?_); rintro e w3 ⟨rfl, hw3⟩; obtain rfl := hw3.symm)
      | (go_at_call_of 85 k1; go_must (refine (ended_r k1 _ _ HK1.out).mono ?_); rintro e w3 ⟨rfl, hw3⟩; obtain rfl := hw3.symm)
      | (go_at_call_of 85 k2; go_must (refine (ended_r k2 _ _ HK2.out).mono ?_); rintro e w3 ⟨rfl, hw3⟩; obtain rfl := hw3.symm)
      | (go_at_call_of 86 k1; go_must (refine (starred_r k1 _ _ HS1.out).mono ?_); rintro e w3 ⟨rfl, hw3⟩; obtain rfl := hw3.symm)
      | (go_at_call_of 86 k2; go_must (refine (starred_r k2 _ _ HS2.out).mono ?_); rintro e w3 ⟨rfl, hw3⟩; obtain rfl := hw3.symm))
    go_ret
    exact ⟨rfl, HT.out.bel⟩
  · have hvf : v = true := HV.out.symm
    subst hvf
    clear HV
    obtain ⟨u1, hu1⟩ : ∃ u, ltB x1.data.toList = u := ⟨_, rfl⟩
    have HL1 := Lib.hid hu1
    clear hu1
    obtain ⟨u2, hu2⟩ : ∃ u, hdB x2.data.toList = u := ⟨_, rfl⟩
    have HH2 := Lib.hid hu2
    clear hu2
    go_enter Tryd.func87, Tryd.ntmps87
    go_wp2_with (first
      | (go_at_call_of 59 x1; go_must (refine (blankEnds_r x1 _ _ _ rfl HL1.out hs1).mono ?_); rintro e w3 ⟨rfl, hw3⟩; obtain rfl := hw3.symm)
      | (go_at_call_of 59 x2; go_must (refine (blankEnds_r x2 _ _ _ HH2.out rfl hs2).mono ?_); rintro e w3 ⟨rfl, hw3⟩; obtain rfl := hw3.symm)
      | (go_at_call_of 85 k1; go_must (refine (ended_r k1 _ _ HK1.out).mono ?_); rintro e w3 ⟨rfl, hw3⟩; obtain rfl := hw3.symm)
      | (go_at_call_of 85 k2; go_must (refine (ended_r k2 _ _ HK2.out).mono ?_); rintro e w3 ⟨rfl, hw3⟩; obtain rfl := hw3.symm)
      | (go_at_call_of 86 k1; go_must (refine (starred_r k1 _ _ HS1.out).mono ?_); rintro e w3 ⟨rfl, hw3⟩; obtain rfl := hw3.symm)
      | (go_at_call_of 86 k2; go_must (refine (starred_r k2 _ _ HS2.out).mono ?_); rintro e w3 ⟨rfl, hw3⟩; obtain rfl := hw3.symm))
    go_ret
    exact ⟨rfl, HT.out.bel⟩
  · have hvf : v = true := HV.out.symm
    subst hvf
    clear HV
    obtain ⟨u1, hu1⟩ : ∃ u, ltB x1.data.toList = u := ⟨_, rfl⟩
    have HL1 := Lib.hid hu1
    clear hu1
    obtain ⟨u2, hu2⟩ : ∃ u, hdB x2.data.toList = u := ⟨_, rfl⟩
    have HH2 := Lib.hid hu2
    clear hu2
    go_enter Tryd.func87, Tryd.ntmps87
    go_wp2_with (first
      | (go_at_call_of 59 x1; go_must (refine (blankEnds_r x1 _ _ _ rfl HL1.out hs1).mono ?_); rintro e w3 ⟨rfl, hw3⟩; obtain rfl := hw3.symm)
      | (go_at_call_of 59 x2; go_must (refine (blankEnds_r x2 _ _ _ HH2.out rfl hs2).mono ?_); rintro e w3 ⟨rfl, hw3⟩; obtain rfl := hw3.symm)
      | (go_at_call_of 85 k1; go_must (refine (ended_r k1 _ _ HK1.out).mono ?_); rintro e w3 ⟨rfl, hw3⟩; obtain rfl := hw3.symm)
      | (go_at_call_of 85 k2; go_must (refine (ended_r k2 _ _ HK2.out).mono ?_); rintro e w3 ⟨rfl, hw3⟩; obtain rfl := hw3.symm)
      | (go_at_call_of 86 k1; go_must (refine (starred_r k1 _ _ HS1.out).mono ?_); rintro e w3 ⟨rfl, hw3⟩; obtain rfl := hw3.symm)
      | (go_at_call_of 86 k2; go_must (refine (starred_r k2 _ _ HS2.out).mono ?_); rintro e w3 ⟨rfl, hw3⟩; obtain rfl := hw3.symm))
    go_ret
    exact ⟨rfl, HT.out.bel⟩
  · have hvf : v = true := HV.out.symm
    subst hvf
    clear HV
    obtain ⟨u1, hu1⟩ : ∃ u, ltB x1.data.toList = u := ⟨_, rfl⟩
    have HL1 := Lib.hid hu1
    clear hu1
    obtain ⟨u2, hu2⟩ : ∃ u, hdB x2.data.toList = u := ⟨_, rfl⟩
    have HH2 := Lib.hid hu2
    clear hu2
    go_enter Tryd.func87, Tryd.ntmps87
    go_wp2_with (first
      | (go_at_call_of 59 x1; go_must (refine (blankEnds_r x1 _ _ _ rfl HL1.out hs1).mono ?_); rintro e w3 ⟨rfl, hw3⟩; obtain rfl := hw3.symm)
      | (go_at_call_of 59 x2; go_must (refine (blankEnds_r x2 _ _ _ HH2.out rfl hs2).mono ?_); rintro e w3 ⟨rfl, hw3⟩; obtain rfl := hw3.symm)
      | (go_at_call_of 85 k1; go_must (refine (ended_r k1 _ _ HK1.out).mono ?_); rintro e w3 ⟨rfl, hw3⟩; obtain rfl := hw3.symm)
      | (go_at_call_of 85 k2; go_must (refine (ended_r k2 _ _ HK2.out).mono ?_); rintro e w3 ⟨rfl, hw3⟩; obtain rfl := hw3.symm)
      | (go_at_call_of 86 k1; go_must (refine (starred_r k1 _ _ HS1.out).mono ?_); rintro e w3 ⟨rfl, hw3⟩; obtain rfl := hw3.symm)
      | (go_at_call_of 86 k2; go_must (refine (starred_r k2 _ _ HS2.out).mono ?_); rintro e w3 ⟨rfl, hw3⟩; obtain rfl := hw3.symm))
    go_ret
    exact ⟨rfl, HT.out.bel⟩
  · have hvf : v = true := HV.out.symm
    subst hvf
    clear HV
    obtain ⟨u1, hu1⟩ : ∃ u, ltB x1.data.toList = u := ⟨_, rfl⟩
    have HL1 := Lib.hid hu1
    clear hu1
    obtain ⟨u2, hu2⟩ : ∃ u, hdB x2.data.toList = u := ⟨_, rfl⟩
    have HH2 := Lib.hid hu2
    clear hu2
    go_enter Tryd.func87, Tryd.ntmps87
    go_wp2_with (first
      | (go_at_call_of 59 x1; go_must (refine (blankEnds_r x1 _ _ _ rfl HL1.out hs1).mono ?_); rintro e w3 ⟨rfl, hw3⟩; obtain rfl := hw3.symm)
      | (go_at_call_of 59 x2; go_must (refine (blankEnds_r x2 _ _ _ HH2.out rfl hs2).mono ?_); rintro e w3 ⟨rfl, hw3⟩; obtain rfl := hw3.symm)
      | (go_at_call_of 85 k1; go_must (refine (ended_r k1 _ _ HK1.out).mono ?_); rintro e w3 ⟨rfl, hw3⟩; obtain rfl := hw3.symm)
      | (go_at_call_of 85 k2; go_must (refine (ended_r k2 _ _ HK2.out).mono ?_); rintro e w3 ⟨rfl, hw3⟩; obtain rfl := hw3.symm)
      | (go_at_call_of 86 k1; go_must (refine (starred_r k1 _ _ HS1.out).mono ?_); rintro e w3 ⟨rfl, hw3⟩; obtain rfl := hw3.symm)
      | (go_at_call_of 86 k2; go_must (refine (starred_r k2 _ _ HS2.out).mono ?_); rintro e w3 ⟨rfl, hw3⟩; obtain rfl := hw3.symm))
    go_ret
    exact ⟨rfl, HT.out.bel⟩
  · have hvf : v = true := HV.out.symm
    subst hvf
    clear HV
    obtain ⟨u1, hu1⟩ : ∃ u, ltB x1.data.toList = u := ⟨_, rfl⟩
    have HL1 := Lib.hid hu1
    clear hu1
    obtain ⟨u2, hu2⟩ : ∃ u, hdB x2.data.toList = u := ⟨_, rfl⟩
    have HH2 := Lib.hid hu2
    clear hu2
    go_enter Tryd.func87, Tryd.ntmps87
    go_wp2_with (first
      | (go_at_call_of 59 x1; go_must (refine (blankEnds_r x1 _ _ _ rfl HL1.out hs1).mono ?_); rintro e w3 ⟨rfl, hw3⟩; obtain rfl := hw3.symm)
      | (go_at_call_of 59 x2; go_must (refine (blankEnds_r x2 _ _ _ HH2.out rfl hs2).mono ?_); rintro e w3 ⟨rfl, hw3⟩; obtain rfl := hw3.symm)
      | (go_at_call_of 85 k1; go_must (refine (ended_r k1 _ _ HK1.out).mono ?_); rintro e w3 ⟨rfl, hw3⟩; obtain rfl := hw3.symm)
      | (go_at_call_of 85 k2; go_must (refine (ended_r k2 _ _ HK2.out).mono ?_); rintro e w3 ⟨rfl, hw3⟩; obtain rfl := hw3.symm)
      | (go_at_call_of 86 k1; go_must (refine (starred_r k1 _ _ HS1.out).mono ?_); rintro e w3 ⟨rfl, hw3⟩; obtain rfl := hw3.symm)
      | (go_at_call_of 86 k2; go_must (refine (starred_r k2 _ _ HS2.out).mono ?_); rintro e w3 ⟨rfl, hw3⟩; obtain rfl := hw3.symm))
    go_ret
    exact ⟨rfl, HT.out.bel⟩

end Go.Proofs.YtlganccpgchmeaaDoor
