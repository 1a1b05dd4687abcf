/-
  The order of ship.Apply's sort: the closure.
-/
import Derived.Test.YtogjhcmaapplgaaDoorApPlain
import Derived.BigQuiet
import Derived.Deep.QuietTactic
import Derived.RegionTactic
namespace Go.Proofs.YtogjhcmaapplgaaDoor
open Go.RowKit Go.Deep

set_option maxRecDepth 100000 in
set_option maxHeartbeats 2000000 in
theorem applyLess_q (blk off n c Bs : Nat) (w : World) (pf : Nat → ByteArray) (hB : w.cell? ⟨Bs, 0, none⟩ = some (.slice (some ⟨blk, off, none⟩) n c)) (hc : ∀ t, t < n → w.cell? ⟨blk, off + t * 2, none⟩ = some (.string (pf t))) (i j : Nat) (hi : i < n) (hj : j < n) :
    Calls Tryd.prog 10 #[.int .i64 i, .int .i64 j, .pointer (some ⟨Bs, 0, none⟩)] w fun e w' => e = .returned (.bool (decide ((pf i).data.toList < (pf j).data.toList))) ∧ ∃ q, w' = w.drewN q := by
  have k0 := hc i hi
  have k1 := hc j hj
  obtain ⟨x, hx⟩ : ∃ x, pf i = x := ⟨_, rfl⟩
  obtain ⟨y, hy⟩ : ∃ y, pf j = y := ⟨_, rfl⟩
  rw [hx] at k0 ⊢
  rw [hy] at k1 ⊢
  have HE := Lib.hid (show Op.bytesLess x.toList y.toList = decide (x.data.toList < y.data.toList) by rw [Go.ByteArray.toList_eq, Go.ByteArray.toList_eq, Go.Proofs.bytesLess_eq])
  have hi1 : (i : Int) < (n : Int) := by omega
  have hj1 : (j : Int) < (n : Int) := by omega
  clear hc hx hy
  go_enter Tryd.func10, Tryd.ntmps10
  go_wp2_with fail
  go_quiet (fail)
  go_wp2_with fail
  go_ret
  exact ⟨by rw [← HE.out]; rfl, _, rfl⟩

end Go.Proofs.YtogjhcmaapplgaaDoor
