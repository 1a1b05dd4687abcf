/-
  slices.Equal at []string.
-/
import Derived.Test.YtbhildmalcfhiaaGreatDoorBytes
import Derived.BigQuiet
import Derived.Deep.QuietTactic
import Derived.Outline
import Derived.RegionTactic
namespace Go.Proofs.YtbhildmalcfhiaaGreatDoor
open Go.RowKit Go.Deep

/-- a list of byte strings as cells -/
def strCells (l : List (List UInt8)) : List Value := l.map fun s => .string ⟨s.toArray⟩

theorem drop_eq_iff' {α : Type} [BEq α] [LawfulBEq α] {l1 l2 : List α} {k : Nat} {a b : α} (h1 : l1[k]? = some a) (h2 : l2[k]? = some b) :
    (l1.drop k == l2.drop k) = (a == b && l1.drop (k + 1) == l2.drop (k + 1)) := by
  obtain ⟨a1, rfl⟩ := List.getElem?_eq_some_iff.1 h1
  obtain ⟨a2, rfl⟩ := List.getElem?_eq_some_iff.1 h2
  rw [List.drop_eq_getElem_cons a1, List.drop_eq_getElem_cons a2]
  rfl

set_option maxHeartbeats 1000000 in
theorem equalStrs_any (l1 l2 : List (List UInt8)) (v1 v2 : Value) (w : World) (h1 : OnesAt w v1 (strCells l1)) (h2 : OnesAt w v2 (strCells l2)) :
    Calls Tryz.prog 8 #[v1, v2] w fun e w' => e = .returned (.bool (l1 == l2)) ∧ Below w.heap.size w w' := by
  obtain ⟨A1, c1, b1, o1, rfl, hl1, hc1, hA1, hcell1⟩ := h1
  obtain ⟨A2, c2, b2, o2, rfl, hl2, hc2, hA2, hcell2⟩ := h2
  simp only [strCells, List.length_map] at *
  unfold maxLen at hc1
  by_cases hne : l1.length = l2.length
  · have hd : ((l1.length : Int) != (l2.length : Int)) = false := by simp [hne]
    have Hne := Lib.hid hne
    go_enter Tryz.func8, Tryz.ntmps8
    go_wp2_with fail
    go_loopw [13] (fun i wr => ∃ k q : Nat, k ≤ l1.length ∧ i = .int .i64 k ∧ (l1 == l2) = (l1.drop k == l2.drop k) ∧ wr = w.drewN q) (fun i _ => l1.length - (intOf i).toNat)
    case atStart => exact ⟨0, 0, Nat.zero_le _, rfl, rfl, rfl⟩
    case round =>
      obtain ⟨k, q, hk, rfl, hs, rfl⟩ := hrel
      by_cases hlt : k < l1.length
      · have hA1' := hA1 (by intro h; simp only [List.map_eq_nil_iff] at h; subst h; simp at hlt)
        have hA2' := hA2 (by intro h; simp only [List.map_eq_nil_iff] at h; subst h; simp at hne; simp [hne] at hlt)
        subst hA1'
        subst hA2'
        obtain ⟨x, hx⟩ : ∃ x, l1[k]? = some x := ⟨_, List.getElem?_eq_getElem hlt⟩
        obtain ⟨y, hy⟩ : ∃ x, l2[k]? = some x := ⟨_, List.getElem?_eq_getElem (by omega)⟩
        have p0 := hcell1 k (.string ⟨x.toArray⟩) (by rw [List.getElem?_map, hx]; rfl)
        have q0 := hcell2 k (.string ⟨y.toArray⟩) (by rw [List.getElem?_map, hy]; rfl)
        have H := Lib.hid hs; clear hs
        have HD := Lib.hid (drop_eq_iff' hx hy); clear hx hy
        have hlt2 : k < l2.length := by omega
        clear hne hcell1 hcell2 hA1 hA2
        by_cases hxy : x = y
        · subst hxy
          go_wp2_with fail
          go_quiet (fail)
          go_wp2_with fail
          go_roundw
          case rel => exact ⟨k + 1, q + nq, by omega, by go_num, by rw [H.out, HD.out]; simp, rfl⟩
          case measure => simp [intOf]; omega
        · go_wp2_with fail
          go_quiet (fail)
          go_wp2_with fail
          · go_ret
            exact ⟨ret_bool (by rw [H.out, HD.out]; simp [hxy]), Below.drewN' (Below.drewN' (Below.refl _ _) _) _⟩
          · exfalso
            have hb : (!(x == y)) = false := by assumption
            simp at hb
            exact hxy hb
      · have hke : k = l1.length := by omega
        have H := Lib.hid hs; clear hs
        have hlt2 : ¬ k < l2.length := by omega
        have Hke := Lib.hid hke
        clear hne hke
        go_wp2_with fail
        go_ret
        exact ⟨ret_bool (by rw [H.out, Hke.out, List.drop_length, Hne.out, List.drop_length]; rfl), Below.drewN' (Below.refl _ _) _⟩
  · have hd : ((l1.length : Int) != (l2.length : Int)) = true := by simp; omega
    have Hne := Lib.hid hne
    clear hne
    go_enter Tryz.func8, Tryz.ntmps8
    go_wp2_with fail
    go_ret
    refine ⟨ret_bool ?_, Below.refl _ _⟩
    rw [eq_comm, beq_eq_false_iff_ne]
    intro h
    exact Hne.out (by rw [h])
end Go.Proofs.YtbhildmalcfhiaaGreatDoor
