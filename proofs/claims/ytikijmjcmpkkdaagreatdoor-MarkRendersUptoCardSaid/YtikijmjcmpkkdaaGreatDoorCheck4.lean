/-
  The error of a node: mastref1.nodeError.
-/
import Derived.Test.YtikijmjcmpkkdaaGreatDoorCheck3
import Derived.BigGuardPart
namespace Go.Proofs.YtikijmjcmpkkdaaGreatDoor
open Go.RowKit Go.Deep

/-- the error of a node that may lie there -/
def nodeErr2 (n : Node) : Int := if levelBad n = true then 2 else if unusedB n = true then 1 else if byteBadB n = true then 9 else 0

theorem nodeErr_in {n : Node} {p : Int} (h : permittedB n.kind p = true) : nodeErr n p = nodeErr2 n := by unfold nodeErr nodeErr2; rw [h]; rfl
theorem nodeErr_out {n : Node} {p : Int} (h : permittedB n.kind p = false) : nodeErr n p = 10 := by unfold nodeErr; rw [h]; rfl

theorem permitted_rv (kind parent : Int) (v : Bool) (w : World) (h : permittedB kind parent = v) : Calls Tryz.prog 66 #[.int .i64 parent, .int .i64 kind] w fun e w' => e = .returned (.bool v) ∧ w = w' := by
  subst h
  exact permitted_r kind parent w
theorem permitted_mv (kind parent : Int) (v : Bool) (w : World) (h : permittedB kind parent = v) : Calls Tryz.prog 97 #[.int .i64 kind, .int .i64 parent] w fun e w' => e = .returned (.bool v) ∧ w = w' := by
  subst h
  exact permitted_m kind parent w

set_option maxHeartbeats 8000000 in
theorem nodeError_any (n : Node) (A : Option Addr) (c : Nat) (p : Int) (w : World) (hk : NodeOk n) (_hl : n.kids.length ≤ 1073741824) :
    Calls Tryz.prog 40 #[nodeV n (.slice A n.kids.length c), .int .i64 p] w fun e w' => e = .returned (.int .i64 (nodeErr n p)) ∧ Below w.heap.size w w' := by
  obtain ⟨_, _, z1, z2, z3⟩ := hk
  cases hP : permittedB n.kind p
  · have HE := Lib.hid (nodeErr_out hP)
    have HP := Lib.hid hP; clear hP
    go_enter Tryz.func40, Tryz.ntmps40
    go_wp2_with (go_at_call 66; go_must (refine (permitted_rv _ _ false _ HP.out).mono ?_); rintro e w1 ⟨rfl, rfl⟩)
    go_ret
    exact ⟨ret_int HE.out.symm, (Below.refl _ _).alloc (Nat.le_refl _) _⟩
  · have HE := Lib.hid (nodeErr_in hP)
    have HP := Lib.hid hP; clear hP
    go_enter Tryz.func40, Tryz.ntmps40
    go_wp2_with (first
      | (go_at_call 66; refine (permitted_rv _ _ true _ HP.out).mono ?_; rintro e w1 ⟨rfl, rfl⟩)
      | (go_at_call 67; refine (badBytes_any _ _ _ _ (by assumption)).mono ?_; rintro e w1 ⟨rfl, rfl⟩))
    all_goals
      go_ret
      refine ⟨ret_int (Eq.trans ?_ HE.out.symm), (Below.refl _ _).alloc (Nat.le_refl _) _⟩
      first
        | (simp [nodeErr2, levelBad, unusedB, usesL, usesT, usesD, usesN, usesK, byteBadB, *]; done)
        | (simp [nodeErr2, levelBad, unusedB, usesL, usesT, usesD, usesN, usesK, byteBadB, *]; omega)
        | (have h3 : (n.kind == 3) = false := by (simp; assumption)
           simp only [h3] at *
           simp [nodeErr2, levelBad, unusedB, usesL, usesT, usesD, usesN, usesK, byteBadB, *]; done)
end Go.Proofs.YtikijmjcmpkkdaaGreatDoor
