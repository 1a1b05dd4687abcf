/-
  The error of a node: mastref1.nodeError.
-/
import Derived.Test.YtphmhhonbkcajaaDoorCheck3
import Derived.BigGuardPart
namespace Go.Proofs.YtphmhhonbkcajaaDoor
open Go.RowKit Go.Deep

/-- the error of a node that may lie there -/
def nodeErr2 (n : Node) : Int := if levelBad n = true then 2 else if unusedB n = true then 1 else if byteBadB n = true then 9 else 0

theorem nodeErr_in {n : Node} {p : Int} (h : permittedB n.kind p = true) : nodeErr n p = nodeErr2 n := by unfold nodeErr nodeErr2; rw [h]; rfl
theorem nodeErr_out {n : Node} {p : Int} (h : permittedB n.kind p = false) : nodeErr n p = 10 := by unfold nodeErr; rw [h]; rfl

theorem permitted_mv (kind parent : Int) (v : Bool) (w : World) (h : permittedB kind parent = v) : Calls Tryd.prog 30 #[.int .i64 kind, .int .i64 parent] w fun e w' => e = .returned (.bool v) ∧ w = w' := by
  subst h
  exact permitted_m kind parent w

end Go.Proofs.YtphmhhonbkcajaaDoor
