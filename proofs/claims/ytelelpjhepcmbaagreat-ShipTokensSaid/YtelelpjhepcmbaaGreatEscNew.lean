/-
  strings.NewReplacer at the eight strings of mark.Escape.
-/
import Derived.Test.YtelelpjhepcmbaaGreatEscBuild
namespace Go.Proofs.YtelelpjhepcmbaaGreat
open Go.RowKit Go.Deep

def oldV : List Value := oldNew.map Value.string
theorem oldV_one : ∀ u ∈ oldV, u.oneCell' = true := by
  intro u hu
  simp only [oldV, List.mem_map] at hu
  obtain ⟨x, _, rfl⟩ := hu
  rfl
def NewPost (w : World) (e : Ending) (w' : World) : Prop := ∃ (br : Nat) (A : Option Addr) (c : Nat), e = .returned (.pointer (some ⟨br, 0, none⟩)) ∧ w.heap.size ≤ br ∧ CB w' br 80 #[.int .u32 0, .int .i32 0, .int .u32 0, .nilIface, .slice A 8 c] ∧ w'.ownsRow w.heap.size 9 1 (.slice A 8 c) 8 oldV ∧ Below w.heap.size w w'

set_option maxRecDepth 100000 in
set_option maxHeartbeats 2000000 in
theorem newReplacer_q (g c : Nat) (w : World) (hc : ∀ (j : Nat) (x : ByteArray), oldNew[j]? = some x → w.cell? ⟨g, j, none⟩ = some (.string x)) :
    Calls Tryz.prog 39 #[.slice (some ⟨g, 0, none⟩) 8 c] w (NewPost w) := by
  obtain ⟨i0, hi, hz0, hz1, hz2⟩ := info_parts info_strE
  have HC := Lib.hid hc; clear hc
  go_enter Tryz.func39, Tryz.ntmps39
  go_wp2_with (at_builtin; go_must (refine wpList_append_own_at (P := Tryz.prog) w rfl (.const (.slice none 0 0)) (.tmp 8) 64 rfl w.heap.size 9 i0 (.string ⟨#[]⟩) 1 16 Tryz.underlying64 hi hz0 hz1 hz2 rfl (by omega) _ 0 [] rfl (World.ownsRow_nil w _ 9 1) ⟨g, 0, none⟩ 8 c oldV rfl rfl ?hcell oldV_one (by unfold maxLen; omega) (by omega) (Nat.le_refl _) ?_))
  case hcell =>
    intro j u hj
    simp only [oldV, List.getElem?_map, Option.map_eq_some_iff] at hj
    obtain ⟨x, hx, rfl⟩ := hj
    have hadd : (⟨g, 0, none⟩ : Addr).add j = ⟨g, j, none⟩ := by unfold Addr.add; split <;> simp_all
    rw [hadd]
    exact HC.out j x hx
  intro v' w1 own1 hg1 _ _
  have own1 : w1.ownsRow w.heap.size 9 1 v' 8 oldV := own1
  obtain ⟨A2, c2, rfl, _, _, _⟩ := own_form own1
  have HB := below_of_grown hg1 (Nat.le_refl _) (fun g hg => by simp [Value.ownBlock] at hg)
  go_wp2_with fail
  go_ret
  exact ⟨w1.heap.size, A2, c2, rfl, HB.size, CB.new _ _ _, own_alloc own1 _, HB.alloc HB.size _⟩

end Go.Proofs.YtelelpjhepcmbaaGreat
