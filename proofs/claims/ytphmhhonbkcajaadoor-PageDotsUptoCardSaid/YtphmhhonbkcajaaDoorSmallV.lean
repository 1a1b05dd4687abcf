/-
  The values made of a text or a number: str, whole/num, safe/safeText, of both packages.
-/
import Derived.Test.YtphmhhonbkcajaaDoorCloneW
import Derived.Test.YtphmhhonbkcajaaDoorBFact
namespace Go.Proofs.YtphmhhonbkcajaaDoor
open Go.RowKit Go.Deep

def vStr (s : ByteArray) : Val := .mk 3 false 0 s [] []
def vNum (n : Int) : Val := .mk 2 false n ⟨#[]⟩ [] []
def vSafe (s : ByteArray) : Val := .mk 7 false 0 s [] []
def nilS : Value := .slice none 0 0
/-- a value without items or keys; nothing old has changed -/
def MadePost (r : Val) (w : World) (e : Ending) (w' : World) : Prop := e = .returned (valAgg r (.slice none 0 0) (.slice none 0 0)) ∧ Below w.heap.size w w'

set_option maxRecDepth 100000 in
set_option maxHeartbeats 400000 in
theorem str_r (s : ByteArray) (w : World) : Calls Tryd.prog 18 #[.string s] w (MadePost (vStr s) w) := by
  go_enter Tryd.func18, Tryd.ntmps18
  go_wp2_with fail
  exact val_done (n := w.heap.size) rfl (CB.new w _ _) rfl rfl rfl ⟨rfl, (Below.refl _ _).alloc (Nat.le_refl _) _⟩

set_option maxRecDepth 100000 in
set_option maxHeartbeats 400000 in
theorem num_r (n : Int) (w : World) : Calls Tryd.prog 24 #[.int .i64 n] w (MadePost (vNum n) w) := by
  go_enter Tryd.func24, Tryd.ntmps24
  go_wp2_with fail
  exact val_done (n := w.heap.size) rfl (CB.new w _ _) rfl rfl rfl ⟨rfl, (Below.refl _ _).alloc (Nat.le_refl _) _⟩

set_option maxRecDepth 100000 in
set_option maxHeartbeats 400000 in
theorem safe_r (s : ByteArray) (w : World) : Calls Tryd.prog 20 #[.string s] w (MadePost (vSafe s) w) := by
  go_enter Tryd.func20, Tryd.ntmps20
  go_wp2_with fail
  exact val_done (n := w.heap.size) rfl (CB.new w _ _) rfl rfl rfl ⟨rfl, (Below.refl _ _).alloc (Nat.le_refl _) _⟩

end Go.Proofs.YtphmhhonbkcajaaDoor
