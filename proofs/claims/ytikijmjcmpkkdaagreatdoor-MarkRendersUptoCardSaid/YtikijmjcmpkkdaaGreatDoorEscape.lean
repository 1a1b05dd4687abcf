/-
  mark.Escape.
-/
import Derived.Test.YtikijmjcmpkkdaaGreatDoorEscDo
import Derived.Test.YtikijmjcmpkkdaaGreatDoorEscRef
namespace Go.Proofs.YtikijmjcmpkkdaaGreatDoor
open Go.RowKit Go.Deep

theorem cell_laidE (w : World) (l : List ByteArray) (t k : Nat) (p : ByteArray) (h : l[k]? = some p) : (w.alloc (.cells (l.map Value.string).toArray t)).cell? ⟨w.heap.size, k, none⟩ = some (.string p) :=
  cell_new w (l.map Value.string) t w.heap.size rfl k _ (by simp [h])
theorem esc_cells (w : World) (cs : Array Value) (h : cs = (oldNew.map Value.string).toArray) (j : Nat) (x : ByteArray) (hj : oldNew[j]? = some x) : (w.alloc (.cells cs 9)).cell? ⟨w.heap.size, j, none⟩ = some (.string x) := by
  subst h
  exact cell_laidE w oldNew 9 j x hj

set_option maxRecDepth 100000 in
set_option maxHeartbeats 2000000 in
theorem escape_q (s u : ByteArray) (w : World) (hu : (⟨(escL s.data.toList).toArray⟩ : ByteArray) = u) (hs : s.size ≤ 2097152) :
    Calls Tryz.prog 102 #[.string s] w fun e w' => e = .returned (.string u) ∧ Below w.heap.size w w' := by
  subst hu
  go_enter Tryz.func102, Tryz.ntmps102
  go_wp2_with fail
  refine (newReplacer_q w.heap.size 8 _ (esc_cells w _ rfl)).mono ?_
  rintro e w1 ⟨br, A, c, rfl, hbr, hcb, hown, hb⟩
  obtain ⟨_, _, hv, _, _, hA⟩ := own_form hown
  cases hv
  obtain ⟨g, rfl, _, _⟩ := hA (by omega)
  have hcell : ∀ (j : Nat) (x : ByteArray), oldNew[j]? = some x → w1.cell? ⟨g, j, none⟩ = some (.string x) := fun j x hj => own_cell hown (by simp [oldV, hj])
  have HC := Lib.hid hcell; clear hcell hown hA
  have HR := Lib.hid hcb; clear hcb
  have HB1 := Lib.hid (((Below.refl w.heap.size w).alloc (Nat.le_refl _) (.cells (oldNew.map Value.string).toArray 9)).trans (hb.mono (by rw [World.size_alloc]; omega))); clear hb
  have hle : w.heap.size ≤ br := by rw [World.size_alloc] at hbr; omega
  go_wp2_with (go_at_call 145; go_must (refine (replace_q w.heap.size br g c s w1 hle HR.out HC.out hs).mono ?_); rintro e w2 ⟨rfl, hb⟩; have HB2 := Lib.hid hb; clear hb)
  go_ret
  exact ⟨rfl, HB1.out.trans HB2.out⟩

theorem escaped_q2 (s u : ByteArray) (w : World) (hu : (⟨(escL s.data.toList).toArray⟩ : ByteArray) = u) (hs : s.size ≤ 2097152) :
    Calls Tryz.prog 78 #[.string s] w fun e w' => e = .returned (.string u) ∧ w = w' := by
  subst hu
  exact escaped_q s w hs

end Go.Proofs.YtikijmjcmpkkdaaGreatDoor
