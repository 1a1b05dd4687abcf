/-
  strings.IndexAny, ContainsAny at whatever string, for three ASCII chars.
-/
import Derived.Test.YtlganccpgchmeaaDoorAnyAll
namespace Go.Proofs.YtlganccpgchmeaaDoor
open Go.RowKit Go.Deep

theorem contains_byte (l : List UInt8) (x : UInt8) : l.contains x = decide (0 ≤ Lib.indexByte l x) := Lib.contains_iff_indexByte l x
theorem not_ascii {cs : ByteArray} (hA : ∀ j (hj : j < cs.size), (cs[j]'hj).toNat < 128) {x : UInt8} (hx : 128 ≤ x.toNat) : cs.data.toList.contains x = false := by
  rw [List.contains_eq_mem, decide_eq_false_iff_not]
  intro h
  obtain ⟨j, hj⟩ := List.mem_iff_getElem?.1 h
  have hj2 := (List.getElem?_eq_some_iff.1 hj).1
  rw [size_toList] at hj2
  have h3 := hA j hj2
  have h4 : cs[j]'hj2 = x := by
    obtain ⟨h1, h2⟩ := List.getElem?_eq_some_iff.1 hj
    rw [← h2, Array.getElem_toList]; rfl
  rw [h4] at h3
  omega
theorem noAny_high {s cs : List UInt8} {i n : Nat} (h : Lib.NoAny s cs i) (hn : ∀ j b, i ≤ j → j < i + n → s[j]? = some b → cs.contains b = false) : Lib.NoAny s cs (i + n) := fun j b hj hb => by
  rcases Nat.lt_or_ge j i with h1 | h1
  · exact h j b h1 hb
  · exact hn j b h1 hj hb

set_option maxRecDepth 1000000 in
set_option maxHeartbeats 4000000 in
theorem indexAny_short (cs : ByteArray) (h3 : cs.size = 3) (hA : ∀ j (hj : j < cs.size), (cs[j]'hj).toNat < 128) (s : ByteArray) (h8 : s.size ≤ 8) (w : World) :
    Calls Tryd.prog 126 #[.string s, .string cs] w fun e w' => e = .returned (.int .i64 (Lib.indexAny s.data.toList cs.data.toList)) ∧ Below w.heap.size w w' := by
  have HA := Lib.hid hA
  have HE := Lib.hid (fun w => indexRune_err cs h3 hA w)
  have HH := Lib.hid (indexRune_high cs h3 hA)
  have hemp : cs.toList.isEmpty = false := by
    rw [Go.ByteArray.toList_eq]
    cases h : cs.data.toList with
    | nil => have := size_toList cs; rw [h, List.length_nil] at this; omega
    | cons _ _ => rfl
  have h8z : decide ((8 : Int) < (s.size : Int)) = false := decide_eq_false (by omega)
  have HI0 := Lib.hid (show (w.iter s 0).heap[w.heap.size]? = some (.stringIter s 0) from World.iter_heap _ _ _)
  have HB0 := Lib.hid (show Below w.heap.size w (w.iter s 0) from (Below.refl _ _).alloc (Nat.le_refl _) _)
  clear hA
  go_enter Tryd.func126, Tryd.ntmps126
  go_wp2_with (go_at_call 137; go_must (refine (Tryd.strings_shouldUseASCIISet _ _).mono ?_); rw [h8z]; rintro e w1 ⟨rfl, hw1⟩; obtain rfl := hw1.symm)
  go_loopw [9, 10] (fun _ _ wr => ∃ i : Nat, i ≤ s.size ∧ Hid (wr.heap[w.heap.size]? = some (.stringIter s i)) ∧ Hid (Below w.heap.size w wr) ∧ Hid (Lib.NoAny s.data.toList cs.data.toList i)) (fun _ _ wr => s.size - wr.iterPos w.heap.size)
  case atStart => exact ⟨0, by omega, HI0, HB0, Lib.hid (Lib.NoAny.zero _ _)⟩
  case round =>
    clear HI0 HB0
    obtain ⟨i, hi, HI, HB, HN⟩ := hrel
    have HP := Lib.hid (show wr.iterPos w.heap.size = i by unfold World.iterPos; rw [HI.out])
    by_cases hlt : i < s.size
    · obtain ⟨d1, d2⟩ := dec_any s i hlt
      obtain ⟨x, hx⟩ : ∃ x, s[i]'hlt = x := ⟨_, rfl⟩
      have hxs : s.data.toList[i]? = some x := by
        rw [List.getElem?_eq_some_iff]
        exact ⟨by rw [size_toList]; exact hlt, by rw [Array.getElem_toList]; exact hx⟩
      have HXs := Lib.hid hxs
      rw [hx] at d1 d2
      by_cases hxa : x.toNat < 128
      · have hnx := fun ty => Lib.run_next_any_at (P := Tryd.prog) wr w.heap.size s i ty HI.out hlt
        rw [d1 hxa] at hnx
        simp only at hnx
        have HI2 := Lib.hid (Lib.iterAt_heap wr w.heap.size s i (i + 1) HI.out)
        have HB2 := Lib.hid (HB.out.trans (iterAt_below (w := wr) (s := s) (p := i + 1) (Nat.le_refl _)))
        have hcon := contains_byte cs.data.toList x
        have hback : ((x.toNat : Int)).toNat.toUInt8 = x := by simp
        have hxi : ((x.toNat : Int)) < 128 := by omega
        clear d1 d2 hxs hx
        cases hin : cs.data.toList.contains x with
        | false =>
          rw [hin] at hcon
          have hlt0 : ¬ ((0 : Int) ≤ Lib.indexByte cs.data.toList x) := of_decide_eq_false hcon.symm
          have HNx := Lib.hid (HN.out.succ HXs.out hin)
          clear hcon hin
          go_wp2_with (go_at_call 111; go_must (refine (Tryd.strings_IndexRune_ascii _ _ _ (by omega) hxi).mono ?_); rw [hback]; rintro e w1 ⟨rfl, hw1⟩; obtain rfl := hw1.symm)
          go_roundw
          case rel => exact ⟨i + 1, by omega, HI2, HB2, HNx⟩
          case measure =>
            have e2 : (wr.iterAt w.heap.size s (i + 1)).iterPos w.heap.size = i + 1 := by unfold World.iterPos; rw [HI2.out]
            rw [HP.out, e2]; omega
        | true =>
          rw [hin] at hcon
          have hge0 : (0 : Int) ≤ Lib.indexByte cs.data.toList x := of_decide_eq_true hcon.symm
          have HNx := Lib.hid (Lib.indexAny_hit HN.out HXs.out hin)
          clear hcon hin
          go_wp2_with (go_at_call 111; go_must (refine (Tryd.strings_IndexRune_ascii _ _ _ (by omega) hxi).mono ?_); rw [hback]; rintro e w1 ⟨rfl, hw1⟩; obtain rfl := hw1.symm)
          go_ret
          exact ⟨by rw [HNx.out]; rfl, HB2.out⟩
      · obtain ⟨e1, e2, e3, e4, e5⟩ := d2 (by omega)
        have hnx := fun ty => Lib.run_next_any_at (P := Tryd.prog) wr w.heap.size s i ty HI.out hlt
        obtain ⟨r, hr⟩ : ∃ r, (Utf8.decode s i).1 = r := ⟨_, rfl⟩
        obtain ⟨n, hn⟩ : ∃ n, (Utf8.decode s i).2 = n := ⟨_, rfl⟩
        rw [hr, hn] at hnx
        rw [hr] at e1 e2
        rw [hn] at e3 e4 e5
        have HI2 := Lib.hid (Lib.iterAt_heap wr w.heap.size s i (i + n) HI.out)
        have HB2 := Lib.hid (HB.out.trans (iterAt_below (w := wr) (s := s) (p := i + n) (Nat.le_refl _)))
        have HNx := Lib.hid (noAny_high HN.out (n := n) (fun j b h1 h2 h3 => by
          have hj : j < s.size := by omega
          have h5 := e5 j hj h1 h2
          have h6 : s[j]'hj = b := by
            obtain ⟨h8, h9⟩ := List.getElem?_eq_some_iff.1 h3
            rw [← h9, Array.getElem_toList]; rfl
          rw [h6] at h5
          exact not_ascii HA.out h5))
        have hcall : ∀ W, Calls Tryd.prog 111 #[.string cs, .int .i32 r] W fun e w' => e = .returned (.int .i64 (-1)) ∧ Below W.heap.size W w' := by
          intro W
          by_cases h5 : r = 65533
          · subst h5; exact HE.out W
          · exact HH.out r e1 e2 h5 W
        have HC := Lib.hid hcall
        clear d1 d2 e5 hr hn hxs hx hcall e1 e2
        go_wp2_with (go_at_call 111; go_must (refine (HC.out _).mono ?_); rintro e w1 ⟨rfl, hb1⟩; have HB3 := Lib.hid (HB2.out.trans (hb1.mono HB2.out.size)); have HI3 := Lib.hid ((hb1.block _ (Array.getElem?_eq_some_iff.1 HI2.out).1).trans HI2.out); clear hb1)
        go_roundw
        case rel => exact ⟨i + n, by omega, HI3, HB3, HNx⟩
        case measure =>
          have e9 : w1.iterPos w.heap.size = i + n := by unfold World.iterPos; rw [HI3.out]
          rw [HP.out, e9]; omega
    · have hnx := fun ty => Lib.run_next_end_at (P := Tryd.prog) wr w.heap.size s i ty HI.out hlt
      have HNx := Lib.hid (Lib.indexAny_none (s := s.data.toList) (chars := cs.data.toList) (by rw [size_toList]; rw [show s.size = i by omega]; exact HN.out))
      go_wp2_with fail
      go_ret
      exact ⟨by rw [HNx.out]; rfl, HB.out⟩
theorem indexAny_q (cs : ByteArray) (h3 : cs.size = 3) (hA : ∀ j (hj : j < cs.size), (cs[j]'hj).toNat < 128) (s : ByteArray) (hs : s.size ≤ 1073741824) (w : World) :
    Calls Tryd.prog 126 #[.string s, .string cs] w fun e w' => e = .returned (.int .i64 (Lib.indexAny s.data.toList cs.data.toList)) ∧ Below w.heap.size w w' := by
  by_cases h8 : s.size ≤ 8
  · exact indexAny_short cs h3 hA s h8 w
  · have hz := zero_of_info (P := Tryd.prog) (t := 77) (v := .agg (Array.replicate 256 (.bool false))) (n := 256) (by kernel_rfl)
    refine (Any.strings_IndexAny_long Tryd.lays153 hz.1 hz.2 s cs w (by omega) (by omega) (by omega) (by omega) (fun j b hb => ?_)).mono fun e w' ⟨h1, h2⟩ => ⟨h1, ?_⟩
    · obtain ⟨h8, h9⟩ := List.getElem?_eq_some_iff.1 hb
      rw [← h9, Array.getElem_toList]
      exact hA j (by rw [← size_toList]; exact h8)
    · rw [h2]
      exact ((Below.refl _ _).alloc (Nat.le_refl _) _).alloc (by simp) _

set_option maxHeartbeats 1000000 in
theorem containsAny_q (cs : ByteArray) (h3 : cs.size = 3) (hA : ∀ j (hj : j < cs.size), (cs[j]'hj).toNat < 128) (s : ByteArray) (hs : s.size ≤ 1073741824) (w : World) :
    Calls Tryd.prog 107 #[.string s, .string cs] w fun e w' => e = .returned (.bool (Lib.containsAny s.data.toList cs.data.toList)) ∧ Below w.heap.size w w' := by
  have HC := Lib.hid (indexAny_q cs h3 hA s hs)
  clear h3 hA
  go_enter Tryd.func107, Tryd.ntmps107
  go_wp2_with (go_at_call 126; go_must (refine (HC.out _).mono ?_); rintro e w1 ⟨rfl, hb1⟩)
  go_ret
  exact ⟨rfl, hb1⟩
theorem containsAny_any (s cs : List UInt8) : Lib.containsAny s cs = s.any (fun c => cs.contains c) := by
  unfold Lib.containsAny
  induction s with
  | nil => rfl
  | cons a r ih =>
    have h1 := Lib.indexAny_ge cs r
    rw [List.any_cons, ← ih, Lib.indexAny]
    cases h : cs.contains a with
    | true => rfl
    | false =>
      simp only [Bool.false_eq_true, if_false, Bool.false_or]
      split
      · rename_i h2
        have := beq_iff_eq.1 h2
        rw [this]
      · rename_i h2
        have h3 : Lib.indexAny r cs ≠ -1 := fun e => h2 (by rw [e]; rfl)
        rw [decide_eq_true (by omega), decide_eq_true (by omega)]

end Go.Proofs.YtlganccpgchmeaaDoor
