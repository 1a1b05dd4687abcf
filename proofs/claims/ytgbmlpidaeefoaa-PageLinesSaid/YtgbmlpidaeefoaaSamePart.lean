/-
  mastref1.SameParts on two lists of one part each.
-/
import Derived.Test.YtgbmlpidaeefoaaLine
import Derived.BigQuiet
import Derived.Deep.QuietTactic
import Derived.RegionTactic
namespace Go.Proofs.Ytgbmlpidaeefoaa
open Go.RowKit Go.Deep

theorem sameParts_nil (w : World) : Calls Try.prog 9 #[.slice none 0 0, .slice none 0 0] w fun e w' => e = .returned (.bool true) ∧ Below w.heap.size w w' := by
  go_enter Try.func9, Try.ntmps9
  go_wp2_with fail
  go_loopw [16] (fun t wr => t = .int .i64 0 ∧ EqW wr w) (fun _ _ => 0)
  case atStart => exact ⟨rfl, EqW.refl _⟩
  case round =>
    obtain ⟨rfl, hww⟩ := hrel
    unfold EqW at hww
    subst hww
    go_wp2_with fail
    go_ret
    exact ⟨rfl, Below.refl _ _⟩

theorem ArgsAt.form {w : World} {v : Value} {l : List ArgL} (h : ArgsAt w v l) : ∃ (A : Option Addr) (c b o : Nat), v = .slice A l.length c ∧ l.length ≤ c ∧ c ≤ maxLen ∧ (l ≠ [] → A = some ⟨b, o, none⟩) ∧
    ∀ i a, l[i]? = some a → w.cell? ⟨b, o + i * 2, none⟩ = some (.string ⟨a.1.toArray⟩) ∧ w.cell? ⟨b, o + i * 2 + 1, none⟩ = some (.string ⟨a.2.toArray⟩) := h

set_option maxRecDepth 100000 in
set_option maxHeartbeats 4000000 in
theorem sameParts_one (b1 b2 : Nat) (nm : ByteArray) (av1 av2 : Value) (e : Bool) (args : List ArgL) (w : World) (h1 : CX w b1 25 (partC nm av1 e)) (h2 : CX w b2 25 (partC nm av2 e))
    (ha1 : ArgsAt w av1 args) (ha2 : ArgsAt w av2 args) : Calls Try.prog 9 #[.slice (some ⟨b1, 0, none⟩) 1 1, .slice (some ⟨b2, 0, none⟩) 1 1] w fun e w' => e = .returned (.bool true) ∧ Below w.heap.size w w' := by
  obtain ⟨A1, c1, d1, o1, rfl, hl1, hm1, hA1, hc1⟩ := ha1.form
  obtain ⟨A2, c2, d2, o2, rfl, hl2, hm2, hA2, hc2⟩ := ha2.form
  unfold maxLen at hm1 hm2
  have HC1 := Lib.hid hc1
  have HC2 := Lib.hid hc2
  clear hc1 hc2 ha1 ha2
  have p0 := h1.c 0
  have p1 := h1.c 1
  have p2 := h1.c 2
  have p3 := h1.c 3
  have p4 := h1.c 4
  have q0 := h2.c 0
  have q1 := h2.c 1
  have q2 := h2.c 2
  have q3 := h2.c 3
  have q4 := h2.c 4
  have l1 := h1.lt
  have l2 := h2.lt
  simp only [partC] at p0 p1 p2 p3 p4 q0 q1 q2 q3 q4
  clear h1 h2
  go_enter Try.func9, Try.ntmps9
  go_wp2_with fail
  go_loopw [16] (fun t wr => (t = .int .i64 0 ∧ EqW wr w) ∨ (t = .int .i64 1 ∧ Hid (Below w.heap.size w wr))) (fun t _ => 1 - (intOf t).toNat)
  case atStart => exact Or.inl ⟨rfl, EqW.refl _⟩
  case round =>
    rcases hrel with ⟨rfl, hww⟩ | ⟨rfl, hB⟩
    · unfold EqW at hww
      subst hww
      go_wp2_with fail
      go_region
      all_goals first
        | (skip
           go_wp2_with fail
           refine (sameParts_nil _).mono ?_
           rintro e w5 ⟨rfl, hb5⟩
           have hX1 : CX (((wr.alloc (.cells (partC nm (.slice A1 args.length c1) e) 25)).alloc (.cells (partC nm (.slice A2 args.length c2) e) 25)).drew) wr.heap.size 25 (partC nm (.slice A1 args.length c1) e) := (CX.new wr _ _).alloc _
           have hX2 : CX (((wr.alloc (.cells (partC nm (.slice A1 args.length c1) e) 25)).alloc (.cells (partC nm (.slice A2 args.length c2) e) 25)).drew) (wr.heap.size + 1) 25 (partC nm (.slice A2 args.length c2) e) := heap_alloc2_new wr _ _
           have hXb : Below wr.heap.size wr (((wr.alloc (.cells (partC nm (.slice A1 args.length c1) e) 25)).alloc (.cells (partC nm (.slice A2 args.length c2) e) 25)).drew) := (((Below.refl _ _).alloc (Nat.le_refl _) _).alloc (by simp) _).drew
           have hY1 := hX1.below hb5
           have hY2 := hX2.below hb5
           have r2 := hY1.c 2
           have s2 := hY2.c 2
           have k1 := hY1.lt
           have k2 := hY2.lt
           simp only [partC] at r2 s2
           have HB5 := Lib.hid (hXb.trans (hb5.mono hXb.size))
           clear hX1 hX2 hXb hY1 hY2 hb5
           clear p0 p1 p2 p3 p4 q0 q1 q2 q3 q4
           go_wp2_with fail
           go_loopw [66] (fun t wq => ∃ (k q : Nat), k ≤ args.length ∧ t = .int .i64 k ∧ wq = w5.drewN q) (fun t _ => args.length - (intOf t).toNat)
           case atStart => exact ⟨0, 0, Nat.zero_le _, rfl, rfl⟩
           case round =>
             obtain ⟨k, q, hk, rfl, rfl⟩ := hrel
             by_cases hlt : k < args.length
             · have hA1' := hA1 (by rintro rfl; simp at hlt)
               have hA2' := hA2 (by rintro rfl; simp at hlt)
               subst hA1' hA2'
               obtain ⟨a, ha⟩ : ∃ a, args[k]? = some a := ⟨_, List.getElem?_eq_getElem hlt⟩
               have hx := HC1.out k a ha
               have hy := HC2.out k a ha
               have x0 := Keeps.of_below HB5.out _ _ hx.1
               have x1 := Keeps.of_below HB5.out _ _ hx.2
               have y0 := Keeps.of_below HB5.out _ _ hy.1
               have y1 := Keeps.of_below HB5.out _ _ hy.2
               obtain ⟨z1, hz1⟩ : ∃ z, (⟨a.1.toArray⟩ : ByteArray) = z := ⟨_, rfl⟩
               obtain ⟨z2, hz2⟩ : ∃ z, (⟨a.2.toArray⟩ : ByteArray) = z := ⟨_, rfl⟩
               rw [hz1] at x0 y0
               rw [hz2] at x1 y1
               clear hx hy ha hz1 hz2
               go_wp2_with fail
               go_quiet (fail)
               go_wp2_with fail
               go_roundw
               case rel => exact ⟨k + 1, q + nq, by omega, by go_num, rfl⟩
               case measure => simp [intOf]; omega
             · go_wp2_with fail
               go_roundw
               case rel => exact Or.inr ⟨rfl, Lib.hid (Below.drewN' HB5.out _)⟩
               case measure => simp [intOf])
        | (skip
           go_wp2_with fail
           refine (sameParts_nil _).mono ?_
           rintro e w5 ⟨rfl, hb5⟩
           have hX1 : CX (((wr.alloc (.cells (partC nm (.slice A2 args.length c2) e) 25)).alloc (.cells (partC nm (.slice A1 args.length c1) e) 25)).drew) wr.heap.size 25 (partC nm (.slice A2 args.length c2) e) := (CX.new wr _ _).alloc _
           have hX2 : CX (((wr.alloc (.cells (partC nm (.slice A2 args.length c2) e) 25)).alloc (.cells (partC nm (.slice A1 args.length c1) e) 25)).drew) (wr.heap.size + 1) 25 (partC nm (.slice A1 args.length c1) e) := heap_alloc2_new wr _ _
           have hXb : Below wr.heap.size wr (((wr.alloc (.cells (partC nm (.slice A2 args.length c2) e) 25)).alloc (.cells (partC nm (.slice A1 args.length c1) e) 25)).drew) := (((Below.refl _ _).alloc (Nat.le_refl _) _).alloc (by simp) _).drew
           have hY1 := hX1.below hb5
           have hY2 := hX2.below hb5
           have r2 := hY1.c 2
           have s2 := hY2.c 2
           have k1 := hY1.lt
           have k2 := hY2.lt
           simp only [partC] at r2 s2
           have HB5 := Lib.hid (hXb.trans (hb5.mono hXb.size))
           clear hX1 hX2 hXb hY1 hY2 hb5
           clear p0 p1 p2 p3 p4 q0 q1 q2 q3 q4
           go_wp2_with fail
           go_loopw [66] (fun t wq => ∃ (k q : Nat), k ≤ args.length ∧ t = .int .i64 k ∧ wq = w5.drewN q) (fun t _ => args.length - (intOf t).toNat)
           case atStart => exact ⟨0, 0, Nat.zero_le _, rfl, rfl⟩
           case round =>
             obtain ⟨k, q, hk, rfl, rfl⟩ := hrel
             by_cases hlt : k < args.length
             · have hA1' := hA1 (by rintro rfl; simp at hlt)
               have hA2' := hA2 (by rintro rfl; simp at hlt)
               subst hA1' hA2'
               obtain ⟨a, ha⟩ : ∃ a, args[k]? = some a := ⟨_, List.getElem?_eq_getElem hlt⟩
               have hx := HC1.out k a ha
               have hy := HC2.out k a ha
               have x0 := Keeps.of_below HB5.out _ _ hx.1
               have x1 := Keeps.of_below HB5.out _ _ hx.2
               have y0 := Keeps.of_below HB5.out _ _ hy.1
               have y1 := Keeps.of_below HB5.out _ _ hy.2
               obtain ⟨z1, hz1⟩ : ∃ z, (⟨a.1.toArray⟩ : ByteArray) = z := ⟨_, rfl⟩
               obtain ⟨z2, hz2⟩ : ∃ z, (⟨a.2.toArray⟩ : ByteArray) = z := ⟨_, rfl⟩
               rw [hz1] at x0 y0
               rw [hz2] at x1 y1
               clear hx hy ha hz1 hz2
               go_wp2_with fail
               go_quiet (fail)
               go_wp2_with fail
               go_roundw
               case rel => exact ⟨k + 1, q + nq, by omega, by go_num, rfl⟩
               case measure => simp [intOf]; omega
             · go_wp2_with fail
               go_roundw
               case rel => exact Or.inr ⟨rfl, Lib.hid (Below.drewN' HB5.out _)⟩
               case measure => simp [intOf])
    · go_wp2_with fail
      go_ret
      exact ⟨rfl, hB.out⟩

end Go.Proofs.Ytgbmlpidaeefoaa
