/-
  A path: ship.isPath and mastref1.IsPath.
-/
import Derived.Test.YtmcelgokchhpfaaGreatDoorParts
import Derived.Test.YtmcelgokchhpfaaGreatDoorShelf
import Derived.Lib.SplitLaws
namespace Go.Proofs.YtmcelgokchhpfaaGreatDoor
open Go.RowKit Go.Deep

/-- a path: parts with strokes between them, of 200 bytes together at most -/
def pathB (s : ByteArray) : Bool := decide (s.size ≤ 200) && (Lib.splitB ⟨#[47]⟩ 0 (Lib.countB s ⟨#[47]⟩) s).all fun p => partL p.data.toList

theorem cell_laid (w : World) (l : List ByteArray) (t k : Nat) (p : ByteArray) (h : l[k]? = some p) : (w.alloc (.cells (l.map Value.string).toArray t)).cell? ⟨w.heap.size, k, none⟩ = some (.string p) := by
  refine cell_new w (l.map Value.string) t w.heap.size rfl k _ ?_
  rw [List.getElem?_map, h]; rfl

theorem path_bad {s : ByteArray} {l : List ByteArray} {k : Nat} {p : ByteArray} (hl : Lib.splitB ⟨#[47]⟩ 0 (Lib.countB s ⟨#[47]⟩) s = l) (h : l[k]? = some p) (hp : partL p.data.toList = false) : pathB s = false := by
  have : (l.all fun p => partL p.data.toList) = false := by
    rw [List.all_eq_false]
    exact ⟨p, List.mem_of_getElem? h, by simp [hp]⟩
  rw [pathB, hl, this, Bool.and_false]
theorem path_all {s : ByteArray} {l : List ByteArray} (hs : s.size ≤ 200) (hl : Lib.splitB ⟨#[47]⟩ 0 (Lib.countB s ⟨#[47]⟩) s = l) (h : ∀ (j : Nat) (p : ByteArray), l[j]? = some p → partL p.data.toList = true) : pathB s = true := by
  simp only [pathB, hl, hs, decide_true, Bool.true_and, List.all_eq_true]
  intro c hc
  obtain ⟨j, hj⟩ := List.mem_iff_getElem?.1 hc
  exact h j c hj
theorem path_empty {s : ByteArray} (h : s.size = 0) : pathB s = false := by
  obtain ⟨⟨l⟩⟩ := s
  have : l = [] := List.eq_nil_of_length_eq_zero h
  subst this
  have hx : Lib.indexB ⟨#[]⟩ ⟨#[47]⟩ = -1 := by decide +kernel
  have h1 : Lib.splitB ⟨#[47]⟩ 0 (Lib.countB ⟨#[]⟩ ⟨#[47]⟩) ⟨#[]⟩ = [⟨#[]⟩] := Lib.splitB_miss _ _ _ _ hx
  exact path_bad (k := 0) h1 rfl (by decide)

set_option maxHeartbeats 1000000 in
theorem shipPath_any (s : ByteArray) (v : Bool) (m : Int) (w : World) (hm : w.cell? ⟨1, 0, none⟩ = some (.int .i64 m)) (h : pathB s = v) :
    Calls Tryz.prog 24 #[.string s] w fun e w' => e = .returned (.bool v) ∧ Below w.heap.size w w' := by
  subst h
  by_cases hB : 200 < s.size
  · have HR := Lib.hid (show pathB s = false by simp only [pathB, show decide (s.size ≤ 200) = false by simp; omega, Bool.false_and])
    go_enter Tryz.func24, Tryz.ntmps24
    go_wp2_with fail
    go_ret
    exact ⟨ret_bool HR.out.symm, Below.refl _ _⟩
  have hsp := Tryz.strings_Split s ⟨#[47]⟩ m w (by omega) hm (by decide)
  obtain ⟨l, hl⟩ : ∃ l, Lib.splitB ⟨#[47]⟩ 0 (Lib.countB s ⟨#[47]⟩) s = l := ⟨_, rfl⟩
  have hlen : l.length = Lib.countB s ⟨#[47]⟩ + 1 := by rw [← hl]; exact Lib.splitB_all _ (by decide) _ _ _ rfl
  have hcl := Lib.countB_le ⟨#[47]⟩ (by decide) s.size s (Nat.le_refl _)
  rw [hl, ← hlen] at hsp
  have hl200 : l.length ≤ 201 := by omega
  have HL := Lib.hid hl; clear hl hlen hcl hm
  have HSP := Lib.hid hsp; clear hsp
  go_enter Tryz.func24, Tryz.ntmps24
  go_wp2_with (go_at_call 45; go_must (refine HSP.out.mono ?_); rintro e w1 ⟨rfl, rfl⟩)
  obtain ⟨w1, hw1⟩ : ∃ w1, w.alloc (.cells (l.map Value.string).toArray 9) = w1 := ⟨_, rfl⟩
  have HC := Lib.hid (fun k p h => hw1 ▸ cell_laid w l 9 k p h)
  have HB := Lib.hid (show Below w.heap.size w w1 from hw1 ▸ (Below.refl _ _).alloc (Nat.le_refl _) _)
  rw [hw1]
  clear hw1
  go_loopw [11] (fun t w2 => ∃ k : Nat, k ≤ l.length ∧ t = .int .i64 k ∧ EqW w2 w1 ∧ ∀ (j : Nat) (p : ByteArray), l[j]? = some p → j < k → partL p.data.toList = true) (fun t _ => l.length - (intOf t).toNat)
  case atStart => exact ⟨0, Nat.zero_le _, rfl, EqW.refl _, fun j c _ h => absurd h (by omega)⟩
  case round =>
    obtain ⟨k, hk, rfl, hww, hall0⟩ := hrel
    unfold EqW at hww
    subst hww
    have hall := Lib.hid hall0; clear hall0
    by_cases hlt : k < l.length
    · obtain ⟨p, hp⟩ : ∃ p, l[k]? = some p := ⟨_, List.getElem?_eq_getElem hlt⟩
      have p0 := HC.out k p hp
      have HP := Lib.hid hp; clear hp
      obtain ⟨b, hb⟩ : ∃ b, partL p.data.toList = b := ⟨_, rfl⟩
      have HBB := Lib.hid hb; clear hb
      cases b
      · go_wp2_with (go_at_call 46; go_must (refine (shipPart_any p false _ HBB.out).mono ?_); rintro e w3 ⟨rfl, rfl⟩)
        go_ret
        exact ⟨ret_bool (path_bad HL.out HP.out HBB.out).symm, HB.out⟩
      · go_wp2_with (go_at_call 46; go_must (refine (shipPart_any p true _ HBB.out).mono ?_); rintro e w3 ⟨rfl, rfl⟩)
        go_roundw
        case rel =>
          refine ⟨k + 1, by omega, by go_num, EqW.refl _, fun j c h3 h4 => ?_⟩
          rcases Nat.lt_succ_iff_lt_or_eq.1 h4 with h5 | rfl
          · exact hall.out j c h3 h5
          · rw [HP.out] at h3
            cases h3
            exact HBB.out
        case measure => simp [intOf]; omega
    · have HR := Lib.hid (path_all (s := s) (by omega) HL.out (fun j c h3 => hall.out j c h3 (by have := (List.getElem?_eq_some_iff.1 h3).1; omega)))
      clear hall
      go_wp2_with fail
      go_ret
      exact ⟨ret_bool HR.out.symm, HB.out⟩

set_option maxHeartbeats 1000000 in
theorem refPath_any (s : ByteArray) (v : Bool) (m : Int) (w : World) (hm : w.cell? ⟨1, 0, none⟩ = some (.int .i64 m)) (h : pathB s = v) :
    Calls Tryz.prog 68 #[.string s] w fun e w' => e = .returned (.bool v) ∧ Below w.heap.size w w' := by
  subst h
  by_cases hA : s.size = 0
  · have HR := Lib.hid (path_empty hA)
    go_enter Tryz.func68, Tryz.ntmps68
    go_wp2_with fail
    go_ret
    exact ⟨ret_bool HR.out.symm, Below.refl _ _⟩
  have hA1 : ¬ s.size < 1 := by omega
  by_cases hB : 200 < s.size
  · have HR := Lib.hid (show pathB s = false by simp only [pathB, show decide (s.size ≤ 200) = false by simp; omega, Bool.false_and])
    go_enter Tryz.func68, Tryz.ntmps68
    go_wp2_with fail
    go_ret
    exact ⟨ret_bool HR.out.symm, Below.refl _ _⟩
  have hsp := Tryz.strings_Split s ⟨#[47]⟩ m w (by omega) hm (by decide)
  obtain ⟨l, hl⟩ : ∃ l, Lib.splitB ⟨#[47]⟩ 0 (Lib.countB s ⟨#[47]⟩) s = l := ⟨_, rfl⟩
  have hlen : l.length = Lib.countB s ⟨#[47]⟩ + 1 := by rw [← hl]; exact Lib.splitB_all _ (by decide) _ _ _ rfl
  have hcl := Lib.countB_le ⟨#[47]⟩ (by decide) s.size s (Nat.le_refl _)
  rw [hl, ← hlen] at hsp
  have hl200 : l.length ≤ 201 := by omega
  have HL := Lib.hid hl; clear hl hlen hcl hm
  have HSP := Lib.hid hsp; clear hsp
  go_enter Tryz.func68, Tryz.ntmps68
  go_wp2_with (go_at_call 45; go_must (refine HSP.out.mono ?_); rintro e w1 ⟨rfl, rfl⟩)
  obtain ⟨w1, hw1⟩ : ∃ w1, w.alloc (.cells (l.map Value.string).toArray 9) = w1 := ⟨_, rfl⟩
  have HC := Lib.hid (fun k p h => hw1 ▸ cell_laid w l 9 k p h)
  have HB := Lib.hid (show Below w.heap.size w w1 from hw1 ▸ (Below.refl _ _).alloc (Nat.le_refl _) _)
  rw [hw1]
  clear hw1
  go_loopw [16] (fun t w2 => ∃ k : Nat, k ≤ l.length ∧ t = .int .i64 k ∧ EqW w2 w1 ∧ ∀ (j : Nat) (p : ByteArray), l[j]? = some p → j < k → partL p.data.toList = true) (fun t _ => l.length - (intOf t).toNat)
  case atStart => exact ⟨0, Nat.zero_le _, rfl, EqW.refl _, fun j c _ h => absurd h (by omega)⟩
  case round =>
    obtain ⟨k, hk, rfl, hww, hall0⟩ := hrel
    unfold EqW at hww
    subst hww
    have hall := Lib.hid hall0; clear hall0
    by_cases hlt : k < l.length
    · obtain ⟨p, hp⟩ : ∃ p, l[k]? = some p := ⟨_, List.getElem?_eq_getElem hlt⟩
      have p0 := HC.out k p hp
      have HP := Lib.hid hp; clear hp
      obtain ⟨b, hb⟩ : ∃ b, partL p.data.toList = b := ⟨_, rfl⟩
      have HBB := Lib.hid hb; clear hb
      cases b
      · go_wp2_with (go_at_call 79; go_must (refine (refPart_any p false _ HBB.out).mono ?_); rintro e w3 ⟨rfl, rfl⟩)
        go_ret
        exact ⟨ret_bool (path_bad HL.out HP.out HBB.out).symm, HB.out⟩
      · go_wp2_with (go_at_call 79; go_must (refine (refPart_any p true _ HBB.out).mono ?_); rintro e w3 ⟨rfl, rfl⟩)
        go_roundw
        case rel =>
          refine ⟨k + 1, by omega, by go_num, EqW.refl _, fun j c h3 h4 => ?_⟩
          rcases Nat.lt_succ_iff_lt_or_eq.1 h4 with h5 | rfl
          · exact hall.out j c h3 h5
          · rw [HP.out] at h3
            cases h3
            exact HBB.out
        case measure => simp [intOf]; omega
    · have HR := Lib.hid (path_all (s := s) (by omega) HL.out (fun j c h3 => hall.out j c h3 (by have := (List.getElem?_eq_some_iff.1 h3).1; omega)))
      clear hall
      go_wp2_with fail
      go_ret
      exact ⟨ret_bool HR.out.symm, HB.out⟩

end Go.Proofs.YtmcelgokchhpfaaGreatDoor
