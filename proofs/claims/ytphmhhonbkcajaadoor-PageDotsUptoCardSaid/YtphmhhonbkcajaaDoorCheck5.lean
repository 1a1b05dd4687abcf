/-
  The error of a node: mark.nodeFault.
-/
import Derived.Test.YtphmhhonbkcajaaDoorCheck4
namespace Go.Proofs.YtphmhhonbkcajaaDoor
open Go.RowKit Go.Deep

theorem usesC_all {k : Int} (h1 : 1 ≤ k) (h2 : k ≤ 18) : usesC k 76 = usesL k ∧ usesC k 84 = usesT k ∧ usesC k 68 = usesD k ∧ usesC k 78 = usesN k ∧ usesC k 75 = usesK k := by
  have h : k = 1 ∨ k = 2 ∨ k = 3 ∨ k = 4 ∨ k = 5 ∨ k = 6 ∨ k = 7 ∨ k = 8 ∨ k = 9 ∨ k = 10 ∨ k = 11 ∨ k = 12 ∨ k = 13 ∨ k = 14 ∨ k = 15 ∨ k = 16 ∨ k = 17 ∨ k = 18 := by omega
  rcases h with rfl | rfl | rfl | rfl | rfl | rfl | rfl | rfl | rfl | rfl | rfl | rfl | rfl | rfl | rfl | rfl | rfl | rfl <;> decide

/-- a field that is not zero, and not used -/
def unC (z : Bool) (k : Int) (c : UInt8) : Bool := !z && !usesC k c

theorem unused_c (k : Int) (c : UInt8) (z : Bool) (b : Nat) (w : World) (hc : w.cell? ⟨b, 0, none⟩ = some (.string (usesS k))) :
    Calls Tryd.prog 32 #[.string ⟨#[c]⟩, .bool z, .pointer (some ⟨b, 0, none⟩)] w fun e w' => e = .returned (.bool (unC z k c)) ∧ w = w' := by
  have HV := Lib.hid (show decide (0 ≤ Lib.indexByte (usesS k).data.toList c) = usesC k c from rfl)
  cases z
  · go_enter Tryd.func32, Tryd.ntmps32
    go_wp2_with (go_at_call 33; go_must (refine (contains_v _ _ (usesC k c) _ HV.out).mono ?_); rintro e w1 ⟨rfl, rfl⟩)
    go_ret
    exact ⟨ret_bool (by simp [unC]), rfl⟩
  · go_enter Tryd.func32, Tryd.ntmps32
    go_wp2_with fail
    go_ret
    exact ⟨rfl, rfl⟩

theorem ctl_0 (s : List UInt8) : ctlP [] s = ctlB false false s := by
  unfold ctlP ctlB
  congr 1
  funext c
  simp [inB]
theorem ctl_9 (s : List UInt8) : ctlP [9] s = ctlB true false s := by
  unfold ctlP ctlB
  congr 1
  funext c
  have h : ((9 : UInt8) == c) = (c == 9) := BEq.comm
  simp [inB, h]
theorem ctl_910 (s : List UInt8) : ctlP [9, 10] s = ctlB true true s := by
  unfold ctlP ctlB
  congr 1
  funext c
  have h : ((9 : UInt8) == c) = (c == 9) := BEq.comm
  have h2 : ((10 : UInt8) == c) = (c == 10) := BEq.comm
  simp [inB, h, h2, Bool.and_assoc]

theorem byteFaultB_eq {n : Node} (h : unusedB n = false) : byteFaultB n = byteBadB n := by
  simp only [unusedB, Bool.or_eq_false_iff] at h
  obtain ⟨⟨⟨⟨_, hT⟩, _⟩, _⟩, _⟩ := h
  unfold byteFaultB byteBadB
  by_cases h3 : n.kind = 3
  · have ht : textP n.kind = ⟨#[9, 10]⟩ := by rw [h3]; rfl
    have hd : destP n.kind = ⟨#[9]⟩ := by rw [h3]; rfl
    rw [ht, hd, h3]
    show (ctlP [9, 10] _ || ctlP [9] _ || ctlP [9] _) = _
    rw [ctl_910, ctl_9, ctl_9]
    rfl
  · have hd : destP n.kind = ⟨#[]⟩ := by unfold destP; rw [if_neg h3]
    have h3b : decide (n.kind = 3) = false := by simp [h3]
    rw [hd, h3b]
    by_cases hk : n.kind = 11 ∨ n.kind = 16 ∨ n.kind = 18
    · have ht : textP n.kind = ⟨#[9]⟩ := by unfold textP; rw [if_pos hk]
      rw [ht]
      show (ctlP [9] _ || ctlP [] _ || ctlP [9] _) = _
      rw [ctl_9, ctl_0, ctl_9]
    · have ht : textP n.kind = ⟨#[]⟩ := by unfold textP; rw [if_neg hk, if_neg h3]
      have hu : usesT n.kind = false := by unfold usesT; simp; omega
      have he : n.text.data.toList = [] := by
        rw [hu] at hT
        simpa [Go.ByteArray.toList_eq] using hT
      rw [ht]
      show (ctlP [] _ || ctlP [] _ || ctlP [9] _) = _
      rw [ctl_0, ctl_0, ctl_9, he]
      rfl

/-- nodeFault's answer, behind the tests of the kind and of the level -/
theorem nodeErr2_of {n : Node} (h1 : 1 ≤ n.kind) (h2 : n.kind ≤ 18) (hL : levelBad n = false) : nodeErr2 n =
    if (unC (n.level == 0) n.kind 76 || unC n.text.toList.isEmpty n.kind 84 || unC n.dest.toList.isEmpty n.kind 68 || unC n.title.toList.isEmpty n.kind 78 || unC ((n.kids.length : Int) == 0) n.kind 75) = true then 1
    else if byteFaultB n = true then 9 else 0 := by
  obtain ⟨a, b, c, d, e⟩ := usesC_all h1 h2
  have hu : (unC (n.level == 0) n.kind 76 || unC n.text.toList.isEmpty n.kind 84 || unC n.dest.toList.isEmpty n.kind 68 || unC n.title.toList.isEmpty n.kind 78 || unC ((n.kids.length : Int) == 0) n.kind 75) = unusedB n := by
    have hz : (!(n.level == 0)) = decide (n.level ≠ 0) := by rw [Bool.eq_iff_iff]; simp
    have hk : (!((n.kids.length : Int) == 0)) = decide (0 < n.kids.length) := by rw [Bool.eq_iff_iff, Bool.not_eq_true', beq_eq_false_iff_ne, decide_eq_true_iff]; omega
    simp only [unC, a, b, c, d, e, unusedB, hz, hk]
    rw [Bool.and_comm (decide (n.level ≠ 0)), Bool.and_comm (!n.text.toList.isEmpty), Bool.and_comm (!n.dest.toList.isEmpty), Bool.and_comm (!n.title.toList.isEmpty), Bool.and_comm (decide (0 < n.kids.length))]
  rw [hu]
  unfold nodeErr2
  rw [hL]
  cases hU : unusedB n
  · rw [byteFaultB_eq hU]; simp
  · simp


set_option maxHeartbeats 2000000 in
theorem nodeFault_k1 (n : Node) (A : Option Addr) (c : Nat) (p : Int) (w : World) (hk : NodeOk n) (_hl : n.kids.length ≤ 1073741824) (h1 : (n.kind == 1) = true) (h5 : (n.kind == 5) = false) (hL1 : 1 ≤ n.level) (hL2 : n.level ≤ 6) (hP : permittedB n.kind p = true) :
    Calls Tryd.prog 27 #[nodeV n (.slice A n.kids.length c), .int .i64 p] w fun e w' => e = .returned (.int .i64 (nodeErr n p)) ∧ Below w.heap.size w w' := by
  obtain ⟨i1, i2, z1, z2, z3⟩ := hk
  have I1 := Lib.hid i1; have I2 := Lib.hid i2; clear i1 i2
  have HE := Lib.hid (nodeErr_in hP)
  have HF := Lib.hid (nodeErr2_of (n := n) (permitted_range hP).1 (permitted_range hP).2 (by have k1 := h1; have k5 := h5; simp at k1 k5; unfold levelBad; rw [Bool.or_eq_false_iff]; simp only [decide_eq_false_iff_not]; omega))
  have HP := Lib.hid hP; clear hP
  go_enter Tryd.func27, Tryd.ntmps27
  go_wp2_with (first
    | (go_at_call 30; refine (permitted_mv _ _ true _ HP.out).mono ?_; rintro e w1 ⟨rfl, rfl⟩)
    | (go_at_call 31; refine (uses_any _ _).mono ?_; rintro e w1 ⟨rfl, rfl⟩)
    | (go_at_call 32; refine (unused_c n.kind _ _ _ _ (by go_simp)).mono ?_; rintro e w1 ⟨rfl, rfl⟩)
    | (go_at_call 34; refine (byteFault_any n _ _ _ _ ⟨I1.out, I2.out, z1, z2, z3⟩).mono ?_; rintro e w5 ⟨rfl, hb5⟩))
  all_goals first
    | (exfalso; omega)
    | (go_ret
       refine ⟨ret_int (Eq.trans ?_ (HE.out.trans HF.out).symm), ?_⟩
       · simp [*]
       · first
         | exact ((Below.refl _ _).alloc (Nat.le_refl _) _).alloc (by simp) _
         | exact (((Below.refl _ _).alloc (Nat.le_refl _) _).alloc (by simp) _).trans (hb5.mono (by simp; omega)))

set_option maxHeartbeats 2000000 in
theorem nodeFault_k5 (n : Node) (A : Option Addr) (c : Nat) (p : Int) (w : World) (hk : NodeOk n) (_hl : n.kids.length ≤ 1073741824) (h1 : (n.kind == 1) = false) (h5 : (n.kind == 5) = true) (hL1 : -1 ≤ n.level) (hL2 : n.level ≤ 9999) (hP : permittedB n.kind p = true) :
    Calls Tryd.prog 27 #[nodeV n (.slice A n.kids.length c), .int .i64 p] w fun e w' => e = .returned (.int .i64 (nodeErr n p)) ∧ Below w.heap.size w w' := by
  obtain ⟨i1, i2, z1, z2, z3⟩ := hk
  have I1 := Lib.hid i1; have I2 := Lib.hid i2; clear i1 i2
  have HE := Lib.hid (nodeErr_in hP)
  have HF := Lib.hid (nodeErr2_of (n := n) (permitted_range hP).1 (permitted_range hP).2 (by have k1 := h1; have k5 := h5; simp at k1 k5; unfold levelBad; rw [Bool.or_eq_false_iff]; simp only [decide_eq_false_iff_not]; omega))
  have HP := Lib.hid hP; clear hP
  go_enter Tryd.func27, Tryd.ntmps27
  go_wp2_with (first
    | (go_at_call 30; refine (permitted_mv _ _ true _ HP.out).mono ?_; rintro e w1 ⟨rfl, rfl⟩)
    | (go_at_call 31; refine (uses_any _ _).mono ?_; rintro e w1 ⟨rfl, rfl⟩)
    | (go_at_call 32; refine (unused_c n.kind _ _ _ _ (by go_simp)).mono ?_; rintro e w1 ⟨rfl, rfl⟩)
    | (go_at_call 34; refine (byteFault_any n _ _ _ _ ⟨I1.out, I2.out, z1, z2, z3⟩).mono ?_; rintro e w5 ⟨rfl, hb5⟩))
  all_goals first
    | (exfalso; omega)
    | (go_ret
       refine ⟨ret_int (Eq.trans ?_ (HE.out.trans HF.out).symm), ?_⟩
       · simp [*]
       · first
         | exact ((Below.refl _ _).alloc (Nat.le_refl _) _).alloc (by simp) _
         | exact (((Below.refl _ _).alloc (Nat.le_refl _) _).alloc (by simp) _).trans (hb5.mono (by simp; omega)))

set_option maxHeartbeats 2000000 in
theorem nodeFault_kx (n : Node) (A : Option Addr) (c : Nat) (p : Int) (w : World) (hk : NodeOk n) (_hl : n.kids.length ≤ 1073741824) (h1 : (n.kind == 1) = false) (h5 : (n.kind == 5) = false) (hP : permittedB n.kind p = true) :
    Calls Tryd.prog 27 #[nodeV n (.slice A n.kids.length c), .int .i64 p] w fun e w' => e = .returned (.int .i64 (nodeErr n p)) ∧ Below w.heap.size w w' := by
  obtain ⟨i1, i2, z1, z2, z3⟩ := hk
  have I1 := Lib.hid i1; have I2 := Lib.hid i2; clear i1 i2
  have HE := Lib.hid (nodeErr_in hP)
  have HF := Lib.hid (nodeErr2_of (n := n) (permitted_range hP).1 (permitted_range hP).2 (by have k1 := h1; have k5 := h5; simp at k1 k5; unfold levelBad; rw [Bool.or_eq_false_iff]; simp only [decide_eq_false_iff_not]; omega))
  have HP := Lib.hid hP; clear hP
  go_enter Tryd.func27, Tryd.ntmps27
  go_wp2_with (first
    | (go_at_call 30; refine (permitted_mv _ _ true _ HP.out).mono ?_; rintro e w1 ⟨rfl, rfl⟩)
    | (go_at_call 31; refine (uses_any _ _).mono ?_; rintro e w1 ⟨rfl, rfl⟩)
    | (go_at_call 32; refine (unused_c n.kind _ _ _ _ (by go_simp)).mono ?_; rintro e w1 ⟨rfl, rfl⟩)
    | (go_at_call 34; refine (byteFault_any n _ _ _ _ ⟨I1.out, I2.out, z1, z2, z3⟩).mono ?_; rintro e w5 ⟨rfl, hb5⟩))
  all_goals first
    | (exfalso; omega)
    | (go_ret
       refine ⟨ret_int (Eq.trans ?_ (HE.out.trans HF.out).symm), ?_⟩
       · simp [*]
       · first
         | exact ((Below.refl _ _).alloc (Nat.le_refl _) _).alloc (by simp) _
         | exact (((Below.refl _ _).alloc (Nat.le_refl _) _).alloc (by simp) _).trans (hb5.mono (by simp; omega)))

theorem nodeFault_any (n : Node) (A : Option Addr) (c : Nat) (p : Int) (w : World) (hk : NodeOk n) (hl : n.kids.length ≤ 1073741824) :
    Calls Tryd.prog 27 #[nodeV n (.slice A n.kids.length c), .int .i64 p] w fun e w' => e = .returned (.int .i64 (nodeErr n p)) ∧ Below w.heap.size w w' := by
  cases hP : permittedB n.kind p
  · have HE := Lib.hid (nodeErr_out hP)
    have HP := Lib.hid hP; clear hP
    go_enter Tryd.func27, Tryd.ntmps27
    go_wp2_with (go_at_call 30; go_must (refine (permitted_mv _ _ false _ HP.out).mono ?_); rintro e w1 ⟨rfl, rfl⟩)
    go_ret
    exact ⟨ret_int HE.out.symm, (Below.refl _ _).alloc (Nat.le_refl _) _⟩
  · by_cases hB : levelBad n = true
    · have HE := Lib.hid ((nodeErr_in hP).trans (show nodeErr2 n = 2 by unfold nodeErr2; rw [if_pos hB]))
      have HP := Lib.hid hP; clear hP
      simp only [levelBad, Bool.or_eq_true, decide_eq_true_eq] at hB
      have hB2 : (n.kind = 1 ∧ n.level < 1) ∨ (n.kind = 1 ∧ ¬ n.level < 1 ∧ 6 < n.level) ∨ (n.kind = 5 ∧ n.level < -1) ∨ (n.kind = 5 ∧ ¬ n.level < -1 ∧ 9999 < n.level) := by omega
      clear hB
      rcases hB2 with ⟨h1, h2⟩ | ⟨h1, h2, h3⟩ | ⟨h1, h2⟩ | ⟨h1, h2, h3⟩
      all_goals
        first | (have k1 : (n.kind == 1) = true := by (simp; assumption)) | (have k1 : (n.kind == 1) = false := by (simp; omega))
        first | (have k5 : (n.kind == 5) = true := by (simp; assumption)) | (have k5 : (n.kind == 5) = false := by (simp; omega))
        clear h1
        go_enter Tryd.func27, Tryd.ntmps27
        go_wp2_with (go_at_call 30; go_must (refine (permitted_mv _ _ true _ HP.out).mono ?_); rintro e w1 ⟨rfl, rfl⟩)
        all_goals first
          | (exfalso; omega)
          | (go_ret
             exact ⟨ret_int HE.out.symm, (Below.refl _ _).alloc (Nat.le_refl _) _⟩)
    · simp only [levelBad, Bool.or_eq_true, decide_eq_true_eq, not_or] at hB
      by_cases h1 : n.kind = 1
      · exact nodeFault_k1 n A c p w hk hl (by simp [h1]) (by simp [h1]) (by omega) (by omega) hP
      · by_cases h5 : n.kind = 5
        · exact nodeFault_k5 n A c p w hk hl (by simp [h5]) (by simp [h5]) (by omega) (by omega) hP
        · exact nodeFault_kx n A c p w hk hl (by simp [h1]) (by simp [h5]) hP

end Go.Proofs.YtphmhhonbkcajaaDoor
