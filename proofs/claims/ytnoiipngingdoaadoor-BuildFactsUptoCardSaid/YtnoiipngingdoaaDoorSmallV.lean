/-
  The values made of a text or a number: str, whole/num, safe/safeText, of both packages.
-/
import Derived.Test.YtnoiipngingdoaaDoorCloneW
import Derived.Test.YtnoiipngingdoaaDoorBFact
namespace Go.Proofs.YtnoiipngingdoaaDoor
open Go.RowKit Go.Deep

def vStr (s : ByteArray) : Val := .mk 3 false 0 s [] []
def vNum (n : Int) : Val := .mk 2 false n ⟨#[]⟩ [] []
def vSafe (s : ByteArray) : Val := .mk 7 false 0 s [] []
def nilS : Value := .slice none 0 0
/-- a value without items or keys; nothing old has changed -/
def MadePost (r : Val) (w : World) (e : Ending) (w' : World) : Prop := e = .returned (valAgg r (.slice none 0 0) (.slice none 0 0)) ∧ Below w.heap.size w w'

set_option maxRecDepth 100000 in
set_option maxHeartbeats 400000 in
theorem str_b (s : ByteArray) (w : World) : Calls Tryd.prog 11 #[.string s] w (MadePost (vStr s) w) := by
  go_enter Tryd.func11, Tryd.ntmps11
  go_wp2_with fail
  exact val_done (n := w.heap.size) rfl (CB.new w _ _) rfl rfl rfl ⟨rfl, (Below.refl _ _).alloc (Nat.le_refl _) _⟩

set_option maxRecDepth 100000 in
set_option maxHeartbeats 400000 in
theorem whole_b (n : Int) (w : World) : Calls Tryd.prog 12 #[.int .i64 n] w (MadePost (vNum n) w) := by
  go_enter Tryd.func12, Tryd.ntmps12
  go_wp2_with fail
  exact val_done (n := w.heap.size) rfl (CB.new w _ _) rfl rfl rfl ⟨rfl, (Below.refl _ _).alloc (Nat.le_refl _) _⟩

set_option maxRecDepth 100000 in
set_option maxHeartbeats 400000 in
theorem safe_b (s : ByteArray) (w : World) : Calls Tryd.prog 13 #[.string s] w (MadePost (vSafe s) w) := by
  go_enter Tryd.func13, Tryd.ntmps13
  go_wp2_with fail
  exact val_done (n := w.heap.size) rfl (CB.new w _ _) rfl rfl rfl ⟨rfl, (Below.refl _ _).alloc (Nat.le_refl _) _⟩

set_option maxRecDepth 100000 in
set_option maxHeartbeats 400000 in
theorem str_r (s : ByteArray) (w : World) : Calls Tryd.prog 15 #[.string s] w (MadePost (vStr s) w) := by
  go_enter Tryd.func15, Tryd.ntmps15
  go_wp2_with fail
  exact val_done (n := w.heap.size) rfl (CB.new w _ _) rfl rfl rfl ⟨rfl, (Below.refl _ _).alloc (Nat.le_refl _) _⟩

set_option maxRecDepth 100000 in
set_option maxHeartbeats 400000 in
theorem num_r (n : Int) (w : World) : Calls Tryd.prog 16 #[.int .i64 n] w (MadePost (vNum n) w) := by
  go_enter Tryd.func16, Tryd.ntmps16
  go_wp2_with fail
  exact val_done (n := w.heap.size) rfl (CB.new w _ _) rfl rfl rfl ⟨rfl, (Below.refl _ _).alloc (Nat.le_refl _) _⟩

set_option maxRecDepth 100000 in
set_option maxHeartbeats 400000 in
theorem safe_r (s : ByteArray) (w : World) : Calls Tryd.prog 17 #[.string s] w (MadePost (vSafe s) w) := by
  go_enter Tryd.func17, Tryd.ntmps17
  go_wp2_with fail
  exact val_done (n := w.heap.size) rfl (CB.new w _ _) rfl rfl rfl ⟨rfl, (Below.refl _ _).alloc (Nat.le_refl _) _⟩

end Go.Proofs.YtnoiipngingdoaaDoor
