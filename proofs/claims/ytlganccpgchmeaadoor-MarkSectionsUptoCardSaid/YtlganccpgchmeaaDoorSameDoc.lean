/-
  mastref1.SameDoc computes 'same' (of the text Same, for seats without mark.Same).
-/
import Derived.Test.YtlganccpgchmeaaDoorNodes
import Derived.BigQuiet
import Derived.Deep.QuietTactic
import Derived.Outline
import Derived.RegionTactic
namespace Go.Proofs.YtlganccpgchmeaaDoor
open Go.RowKit Go.Deep

def same : List Node → List Node → Bool
  | [], [] => true
  | n :: r, n' :: r' =>
    n.kind == n'.kind && n.level == n'.level && n.text.toList == n'.text.toList && n.dest.toList == n'.dest.toList && n.title.toList == n'.title.toList && same n.kids n'.kids && same r r'
  | _, _ => false
termination_by l => SizeOf.sizeOf l
decreasing_by
  · have := Node.kids_lt n; simp; omega
  · simp; omega

theorem same_at {l1 l2 : List Node} {k : Nat} {n1 n2 : Node} (hs : same l1 l2 = same (l1.drop k) (l2.drop k)) (h1 : l1[k]? = some n1) (h2 : l2[k]? = some n2) :
    same l1 l2 = (n1.kind == n2.kind && n1.level == n2.level && n1.text.toList == n2.text.toList && n1.dest.toList == n2.dest.toList && n1.title.toList == n2.title.toList && same n1.kids n2.kids &&
      same (l1.drop (k + 1)) (l2.drop (k + 1))) := by
  obtain ⟨a1, rfl⟩ := List.getElem?_eq_some_iff.1 h1
  obtain ⟨a2, rfl⟩ := List.getElem?_eq_some_iff.1 h2
  rw [hs, List.drop_eq_getElem_cons a1, List.drop_eq_getElem_cons a2, same]

theorem same_size {l1 : List Node} {k N : Nat} {n1 : Node} (h : SizeOf.sizeOf l1 ≤ N + 1) (h1 : l1[k]? = some n1) : SizeOf.sizeOf n1.kids ≤ N := by
  have hm := List.mem_of_getElem? h1
  have := List.sizeOf_lt_of_mem hm
  have := n1.kids_lt
  omega

theorem same_len : ∀ {l1 l2 : List Node}, l1.length ≠ l2.length → same l1 l2 = false
  | [], [], h => absurd rfl h
  | [], _ :: _, _ => by rw [same] <;> simp
  | _ :: _, [], _ => by rw [same] <;> simp
  | n :: r, n' :: r', h => by rw [same, same_len (l1 := r) (l2 := r') (by simpa using h), Bool.and_false]

theorem same_refl : ∀ (l : List Node), same l l = true
  | [] => by rw [same]
  | n :: r => by rw [same, same_refl n.kids, same_refl r]; simp
termination_by l => SizeOf.sizeOf l
decreasing_by
  · have := Node.kids_lt n; simp; omega
  · simp; omega

set_option maxHeartbeats 1000000 in
theorem sameDoc_any (N : Nat) : ∀ (l1 l2 : List Node) (v1 v2 : Value) (w : World), SizeOf.sizeOf l1 ≤ N → NodesAt w v1 l1 → NodesAt w v2 l2 →
    Calls Tryd.prog 12 #[v1, v2] w fun e w' => e = .returned (.bool (same l1 l2)) ∧ Below w.heap.size w w' := by
  induction N with
  | zero =>
    intro l1 l2 v1 v2 w hN
    cases l1 <;> simp at hN
  | succ N ih =>
    intro l1 l2 v1 v2 w hN h1 h2
    obtain ⟨A1, c1, b1, o1, k1, rfl, hl1, hc1, hA1, hcell1, hkid1⟩ := h1.inv
    obtain ⟨A2, c2, b2, o2, k2, rfl, hl2, hc2, hA2, hcell2, hkid2⟩ := h2.inv
    by_cases hne : l1.length = l2.length
    · have hd : ((l1.length : Int) != (l2.length : Int)) = false := by simp [hne]
      go_enter Tryd.func12, Tryd.ntmps12
      go_wp2_with (fail)
      go_loopw [15] (fun i wr => ∃ k : Nat, k ≤ l1.length ∧ i = .int .i64 k ∧ same l1 l2 = same (l1.drop k) (l2.drop k) ∧ Below w.heap.size w wr) (fun i _ => l1.length - (intOf i).toNat)
      case atStart => exact ⟨0, Nat.zero_le _, rfl, rfl, Below.refl _ _⟩
      case round =>
        obtain ⟨k, hk, rfl, hs, hB⟩ := hrel
        by_cases hlt : k < l1.length
        · have hA1' := hA1 (by intro h; simp [h] at hlt)
          have hA2' := hA2 (by rintro rfl; simp at hne; simp [hne] at hlt)
          subst hA1'
          subst hA2'
          obtain ⟨n1, hn1⟩ : ∃ n, l1[k]? = some n := ⟨_, List.getElem?_eq_getElem hlt⟩
          obtain ⟨n2, hn2⟩ : ∃ n, l2[k]? = some n := ⟨_, List.getElem?_eq_getElem (by omega)⟩
          have g1 := (hcell1 k n1 hn1).keep (Keeps.of_below hB)
          have g2 := (hcell2 k n2 hn2).keep (Keeps.of_below hB)
          obtain ⟨A3, c3, b3, o3, k3, e3, hl3, hc3, _, _, _⟩ := (hkid1 k n1 hn1).inv
          obtain ⟨A4, c4, b4, o4, k4, e4, hl4, hc4, _, _, _⟩ := (hkid2 k n2 hn2).inv
          have m1 := (hkid1 k n1 hn1).keep (Keeps.of_below hB)
          have m2 := (hkid2 k n2 hn2).keep (Keeps.of_below hB)
          rw [e3] at g1 m1
          rw [e4] at g2 m2
          have M1 := Lib.hid m1; clear m1
          have M2 := Lib.hid m2; clear m2
          clear e3 e4
          have hsz := same_size hN hn1
          unfold maxLen at hc1
          have H := Lib.hid hs; clear hs
          have H1 := Lib.hid hn1; clear hn1
          have H2 := Lib.hid hn2; clear hn2
          have Hne := Lib.hid hne
          clear hcell1 hcell2 hkid1 hkid2 hA1 hA2 h1 h2
          obtain ⟨p0, p1, p2, p3, p4, p5, _, _, _, _, _⟩ := g1
          obtain ⟨q0, q1, q2, q3, q4, q5, _, _, _, _, _⟩ := g2
          have bb1 := World.block_lt_of_cell? _ _ p0
          have bb2 := World.block_lt_of_cell? _ _ q0
          simp only at bb1 bb2
          have hlt2 : k < l2.length := by omega
          clear hne
          have hB' := Lib.hid hB; clear hB
          go_wp2_with (fail)
          go_region
          all_goals
            go_wp2_with (go_at_call 12; refine (ih n1.kids n2.kids _ _ _ ?_ (M1.out.keep ?_) (M2.out.keep ?_)).mono ?_; rotate_right; rintro e w5 ⟨rfl, hb5⟩)
          all_goals first
            | exact hsz
            | exact ((Keeps.alloc _ _).trans (Keeps.alloc _ _)).trans (Keeps.drew _)
            | (go_ret
               refine ⟨?_, ?_⟩
               · rw [same_at H.out H1.out H2.out]
                 simp_all
               · first
                 | exact ((hB'.out.alloc hB'.out.size _).alloc (Nat.le_trans hB'.out.size (by simp)) _).drew
                 | exact (((hB'.out.alloc hB'.out.size _).alloc (Nat.le_trans hB'.out.size (by simp)) _).drew).trans (hb5.mono (Nat.le_trans hB'.out.size (by simp; omega))))
            | (go_roundw
               case rel =>
                 refine ⟨k + 1, by omega, by go_num, ?_, ?_⟩
                 · rw [same_at H.out H1.out H2.out]
                   simp_all
                 · exact (((hB'.out.alloc hB'.out.size _).alloc (Nat.le_trans hB'.out.size (by simp)) _).drew).trans (hb5.mono (Nat.le_trans hB'.out.size (by simp; omega)))
               case measure => simp [intOf]; omega)
        · have hke : k = l1.length := by omega
          subst hke
          have H := Lib.hid hs; clear hs
          have hB' := Lib.hid hB; clear hB
          have Hne := Lib.hid hne
          have hlt2 : ¬ l1.length < l2.length := by omega
          clear hne
          go_wp2_with (fail)
          go_ret
          refine ⟨ret_bool ?_, hB'.out⟩
          rw [H.out, List.drop_length, Hne.out, List.drop_length, same]
    · have hd : ((l1.length : Int) != (l2.length : Int)) = true := by simp; omega
      have Hne := Lib.hid hne
      clear hne
      go_enter Tryd.func12, Tryd.ntmps12
      go_wp2_with (fail)
      go_ret
      exact ⟨ret_bool (same_len Hne.out).symm, Below.refl _ _⟩
end Go.Proofs.YtlganccpgchmeaaDoor
